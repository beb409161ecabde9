/- Contracts: valid games. -/
import Derived.Test.YtnnmgdngfofjlaaGreatDoorQ4
set_option linter.unusedSimpArgs false
set_option linter.unusedVariables false
set_option maxRecDepth 20000
namespace Go.Ab
open Go.Proofs

theorem q0u0 : ∀ l : List Int, sumI l = l.sum
 | [] => rfl
 | x :: l => by rw [sumI, List.sum_cons, q0u0 l]
theorem q0vm (w : List (List Int)) (r : List Int) : totW (w ++ [r]) = totW w + r.sum := by
 simp only [totW, List.map_append, List.map_cons, List.map_nil]
 rw [q0u7, q0u0 r]
theorem q0vl : totW [] = 0 := rfl
def q0ry (w : List (List Int)) : Prop := w.length <= 6 /\ ∀ r ∈ w, r.length <= 6 /\ ∀ x ∈ r, 0 <= x /\ x <= 9
theorem q0s0 {w : List (List Int)} (h : q0ry w) {r : List Int} (hr : r ∈ w) : q0rv r := ⟨by have := (h.2 r hr).1; omega, fun x hx => by have := (h.2 r hr).2 x hx; omega⟩
theorem q0vk {w : List (List Int)} (h : q0ry w) (k : Nat) : 0 <= totW (w.take k) /\ totW (w.take k) <= 324 := by
 have h1 : ∀ x ∈ (w.take k).map sumI, 0 <= x := fun x hx => by
  obtain ⟨r, hr, rfl⟩ := List.mem_map.1 hx
  exact q0u4 fun y hy => ((h.2 r (List.mem_of_mem_take hr)).2 y hy).1
 have h2 : ∀ x ∈ (w.take k).map sumI, x <= 54 := fun x hx => by
  obtain ⟨r, hr, rfl⟩ := List.mem_map.1 hx
  have := q0u1 (b := 9) fun y hy => ((h.2 r (List.mem_of_mem_take hr)).2 y hy).2
  have := (h.2 r (List.mem_of_mem_take hr)).1
  omega
 refine ⟨q0u4 h1, ?_⟩
 have := q0u1 h2
 rw [List.length_map, List.length_take] at this
 have := h.1
 unfold totW; omega
theorem q0rz {w : List (List Int)} {k : Nat} (h : matK w k 0 9 = true) (hk : k <= 6) : q0ry w := by
 obtain ⟨h1, h2⟩ := q0jv h
 exact ⟨by omega, fun r hr => ⟨by have := (h2 r hr).1; omega, fun x hx => by have := (h2 r hr).2 x hx; omega⟩⟩

theorem q0la {i n : Nat} (h : i < n) (hn : n <= 9223372036854775807) : IntKind.i64.wrap ((i : Int) + 1) = ((i + 1 : Nat) : Int) := by
 rw [wrap64 (by omega) (by omega)]; omega
section
attribute [-go_sem] q0i5
theorem q0f2 (g : Gm) (h : q0ry g.w) : Pure Tryz.prog 49 [q0ck g] (.i (totW g.w)) := by
 have hl := h.1
 refine q0aq (by simp) ?_
 simp -implicitDefEqProofs only [eR', go_sem, q03s, q0ck, nodes]
 refine SemC.loopR (σ := Nat) (fun i => St.of [(3, .t (.i (totW (g.w.take i)))), (7, .t (rows g.w)), (8, .t (.i g.w.length)), (9, .t (.i i))] []) (fun i => i <= g.w.length) (fun i => g.w.length - i) 0 (Weak.o _ [] [] ?_ trivial) (by omega) fun i hi R hn hr he => ?_
 ·simp -implicitDefEqProofs only [wR', Nat.reduceBEq, Nat.reduceEqDiff, ↓reduceIte, List.take_zero, q0vl]
 ·rcases Nat.lt_or_ge i g.w.length with h9 | h9
  ·obtain ⟨r, hx⟩ : ∃ r, g.w[i]? = some r := ⟨_, List.getElem?_eq_getElem h9⟩
   simp -implicitDefEqProofs only [eR', go_sem, hx, decide_eq_true (show (i : Int) < (g.w.length : Int) by omega)]
   refine ⟨by omega, by omega, by omega, ?_⟩
   refine q006.p (q0f1 r (q0s0 h (List.mem_of_getElem? hx))) [] rfl Tryz.call71 ?_ ?_
   ·simp -implicitDefEqProofs only [aR', go_sem]
   simp -implicitDefEqProofs only [eR', go_sem]
   have e := q0vm (g.w.take i) r
   rw [← q0uj hx] at e
   have hb := q0vk h (i + 1)
   refine hn _ (i + 1) (Weak.o _ [] [] ?_ trivial) (by omega) (by omega)
   simp -implicitDefEqProofs only [wR', Nat.reduceBEq, Nat.reduceEqDiff, ↓reduceIte, q0lb h9 (by omega), ← e, wrap64 (n := totW (g.w.take (i + 1))) (by omega) (by omega)]
  ·simp -implicitDefEqProofs only [eR', go_sem, decide_eq_false (show ¬ (i : Int) < (g.w.length : Int) by omega)]
   refine he _ _ ?_
   simp -implicitDefEqProofs only [eR', go_sem]
   rw [List.take_of_length_le (by omega)]
theorem q0sg (g : Gm) (h : q0ry g.w) : Pure Tryz.prog 61 [q0ck g] (.i (totW g.w)) := by
 have hl := h.1
 refine q0bv (by simp) ?_
 simp -implicitDefEqProofs only [eR', go_sem, q04x, q0ck, nodes]
 refine SemC.loopR (σ := Nat) (fun i => St.of [(1, .own 1), (3, .t (.i (totW (g.w.take i)))), (4, .t (.i i))] [(1, .box [nodes g.nd, rows g.w, rows g.v])]) (fun i => i <= g.w.length) (fun i => g.w.length - i) 0 (Weak.o _ _ [some 1] ?_ ?_) (by omega) fun i hi R hn hr he => ?_
 ·simp -implicitDefEqProofs only [wR', Nat.reduceBEq, Nat.reduceEqDiff, ↓reduceIte, List.take_zero, q0vl, nodes]
 ·exact ⟨⟨_, rfl, .refl _⟩, rfl, trivial⟩
 ·rcases Nat.lt_or_ge i g.w.length with h9 | h9
  ·obtain ⟨r, hx⟩ : ∃ r, g.w[i]? = some r := ⟨_, List.getElem?_eq_getElem h9⟩
   simp -implicitDefEqProofs only [eR', go_sem, nodes, hx, decide_eq_true (show (i : Int) < (g.w.length : Int) by omega)]
   refine ⟨by omega, by omega, by omega, ?_⟩
   refine q006.p (q0s7 r (q0s0 h (List.mem_of_getElem? hx))) [] rfl Tryz.call79 ?_ ?_
   ·simp -implicitDefEqProofs only [aR', go_sem]
   simp -implicitDefEqProofs only [eR', go_sem]
   have e := q0vm (g.w.take i) r
   rw [← q0uj hx] at e
   have hb := q0vk h (i + 1)
   refine hn _ (i + 1) (Weak.o _ _ [some 1] ?_ ?_) (by omega) (by omega)
   ·simp -implicitDefEqProofs only [wR', Nat.reduceBEq, Nat.reduceEqDiff, ↓reduceIte, nodes, q0lb h9 (by omega), ← e, wrap64 (n := totW (g.w.take (i + 1))) (by omega) (by omega)]
   ·exact ⟨⟨_, rfl, .refl _⟩, rfl, trivial⟩
  ·simp -implicitDefEqProofs only [eR', go_sem, nodes, decide_eq_false (show ¬ (i : Int) < (g.w.length : Int) by omega)]
   refine he _ _ ?_
   simp -implicitDefEqProofs only [eR', go_sem]
   rw [List.take_of_length_le (by omega)]
theorem q0js {m : List (List Int)} {k : Nat} {lo hi : Int} : matK m k lo hi = true ↔ m.length = k /\ ∀ r ∈ m, r.length = k /\ ∀ x ∈ r, lo <= x /\ x <= hi := by
 simp only [matK, Bool.and_eq_true, decide_eq_true_eq, List.all_eq_true]
theorem q0jr {m : List (List Int)} {k : Nat} {lo hi : Int} (h : ¬ (m.length = k /\ ∀ r ∈ m, r.length = k /\ ∀ x ∈ r, lo <= x /\ x <= hi)) : matK m k lo hi = false := by
 cases hc : matK m k lo hi with
 | false => rfl
 | true => exact absurd (q0js.1 hc) h
theorem q0sd (m : List (List Int)) (k : Nat) (lo hi : Int) (hm : m.length <= 9223372036854775807) (hk : k <= 6) : Pure Tryz.prog 68 [rows m, .i k, .i lo, .i hi] (.b (matK m k lo hi)) := by
 refine q0bs (by simp) ?_
 simp -implicitDefEqProofs only [eR', go_sem, q04u]
 refine SemC.loopR (σ := Nat) (fun i => St.of [(0, .t (rows m)), (1, .t (.i k)), (2, .t (.i lo)), (3, .t (.i hi)), (9, .t (.i i))] []) (fun i => i <= m.length /\ ∀ j r, j < i -> m[j]? = some r -> r.length = k /\ ∀ x ∈ r, lo <= x /\ x <= hi) (fun i => m.length - i) 0 (Weak.o _ [] [] ?_ trivial) ⟨by omega, fun j r hj => by omega⟩ fun i hI R hn hr he => ?_
 ·simp -implicitDefEqProofs only [wR', Nat.reduceBEq, Nat.reduceEqDiff, ↓reduceIte]
 ·obtain ⟨hi', hrows⟩ := hI
  rcases Nat.lt_or_ge i m.length with h9 | h9
  ·obtain ⟨r, hx⟩ : ∃ r, m[i]? = some r := ⟨_, List.getElem?_eq_getElem h9⟩
   simp -implicitDefEqProofs only [eR', go_sem, hx, decide_eq_true (show (i : Int) < (m.length : Int) by omega)]
   refine ⟨by omega, by omega, by omega, fun h1 => hr _ ?_, fun h1 => ?_⟩
   ·simp -implicitDefEqProofs only [eR', go_sem]
    rw [q0jr fun h => by have := (h.2 r (List.mem_of_getElem? hx)).1; simp at h1; omega]
   ·have h1 : r.length = k := by simp at h1; omega
    refine SemC.loopR (σ := Nat) (fun j => St.of [(0, .t (rows m)), (1, .t (.i k)), (2, .t (.i lo)), (3, .t (.i hi)), (9, .t (.i i)), (10, .t (.i j))] []) (fun j => j <= k /\ ∀ t x, t < j -> r[t]? = some x -> lo <= x /\ x <= hi) (fun j => k - j) 0 (Weak.o _ [] [] ?_ trivial) ⟨by omega, fun j x hj => by omega⟩ fun j hJ R2 hn2 hr2 he2 => ?_
    ·simp -implicitDefEqProofs only [wR', Nat.reduceBEq, Nat.reduceEqDiff, ↓reduceIte]
    ·obtain ⟨hj, hels⟩ := hJ
     rcases Nat.lt_or_ge j k with h8 | h8
     ·obtain ⟨x, hy⟩ : ∃ x, r[j]? = some x := ⟨_, List.getElem?_eq_getElem (by omega)⟩
      simp -implicitDefEqProofs only [eR', go_sem, hx, hy, decide_eq_true (show (j : Int) < (k : Int) by omega)]
      refine ⟨by omega, by omega, by omega, by omega, by omega, by omega, ?_⟩
      refine q006.p (q0s4 x lo hi) [] rfl Tryz.call67 ?_ ?_
      ·simp -implicitDefEqProofs only [aR', go_sem]
      simp -implicitDefEqProofs only [eR', go_sem]
      refine ⟨fun h2 => hr2 _ ?_, fun h2 => hn2 _ (j + 1) (Weak.o _ [] [] ?_ trivial) ⟨by omega, fun t y ht hyt => ?_⟩ (by omega)⟩
      ·simp -implicitDefEqProofs only [eR', go_sem]
       refine hr _ ?_
       simp -implicitDefEqProofs only [eR', go_sem]
       rw [q0jr fun h => by have := (h.2 r (List.mem_of_getElem? hx)).2 x (List.mem_of_getElem? hy); have := bnT h2; simp at this; omega]
      ·simp -implicitDefEqProofs only [wR', Nat.reduceBEq, Nat.reduceEqDiff, ↓reduceIte, q0lb h8 (by omega)]
      ·by_cases htj : t = j
       ·subst htj; rw [hy] at hyt; cases hyt
        have := bnF h2
        simpa using this
       ·exact hels t y (by omega) hyt
     ·simp -implicitDefEqProofs only [eR', go_sem, decide_eq_false (show ¬ (j : Int) < (k : Int) by omega)]
      refine he2 _ _ ?_
      simp -implicitDefEqProofs only [eR', go_sem]
      refine hn _ (i + 1) (Weak.o _ [] [] ?_ trivial) ⟨by omega, fun t y ht hyt => ?_⟩ (by omega)
      ·simp -implicitDefEqProofs only [wR', Nat.reduceBEq, Nat.reduceEqDiff, ↓reduceIte, q0la h9 hm]
      ·by_cases htj : t = i
       ·subst htj; rw [hx] at hyt; cases hyt
        refine ⟨h1, fun z hz => ?_⟩
        obtain ⟨u, hu, rfl⟩ := List.mem_iff_getElem.1 hz
        exact hels u _ (by omega) (List.getElem?_eq_getElem hu)
       ·exact hrows t y (by omega) hyt
  ·simp -implicitDefEqProofs only [eR', go_sem, decide_eq_false (show ¬ (i : Int) < (m.length : Int) by omega)]
   refine he _ _ ?_
   simp -implicitDefEqProofs only [eR', go_sem]
   have hall : ∀ r ∈ m, r.length = k /\ ∀ x ∈ r, lo <= x /\ x <= hi := fun r hr => by
    obtain ⟨u, hu, rfl⟩ := List.mem_iff_getElem.1 hr
    exact hrows u _ (by omega) (List.getElem?_eq_getElem hu)
   by_cases hmk : m.length = k
   ·rw [q0js.2 ⟨hmk, hall⟩, hmk]; simp [T.b]
   ·rw [q0jr fun h => hmk h.1]
    have e : ((m.length : Int) == (k : Int)) = false := by simp; omega
    rw [e]
theorem q0fp {g : Gm} (h : q0fv g.nd = false) : q0fl g = false := by rw [q0fl, h]; rfl
theorem q0s2 (g : Gm) (hg : q0cf g) : Pure Tryz.prog 35 [q0ck g] (.b (q0fl g)) := by
 obtain ⟨hg1, hg2, hg3, hg4⟩ := hg
 have ht := q0s3 g.nd hg1 hg2
 simp only [q0vz, nodes] at ht
 refine q0bi (by simp) ?_
 simp -implicitDefEqProofs only [eR', go_sem, q04k, q0ck, nodes]
 refine q006.p ht [] rfl Tryz.call66 ?_ ?_
 ·simp -implicitDefEqProofs only [aR', go_sem]
 simp -implicitDefEqProofs only [eR', go_sem]
 refine ⟨fun h1 => ?_, fun h1 => by rw [q0fp (by simpa using h1)]⟩
 have h1 : q0fv g.nd = true := by simpa using h1
 refine q006.p (q0s4 g.w.length 1 6) [] rfl Tryz.call67 ?_ ?_
 ·simp -implicitDefEqProofs only [aR', go_sem]
 simp -implicitDefEqProofs only [eR', go_sem]
 refine ⟨fun h2 h2' => ?_, fun h2 => ?_⟩
 rotate_left
 ·have h2 : ¬ (1 <= g.w.length /\ g.w.length <= 6) := by omega
  rw [q0fl, h1, decide_eq_false h2]; rfl
 have h2 : 1 <= g.w.length /\ g.w.length <= 6 := by omega
 have hm1 := q0sd g.w g.w.length 0 9 hg3.1 h2.2
 have hm2 := q0sd g.v g.w.length (-1) 1 hg4.1 h2.2
 simp only [rows] at hm1 hm2
 refine q006.p hm1 [] rfl Tryz.call68 ?_ ?_
 ·simp -implicitDefEqProofs only [aR', go_sem]
 simp -implicitDefEqProofs only [eR', go_sem]
 refine ⟨fun h3 => ?_, fun h3 => ?_⟩
 rotate_left
 ·have h3 : matK g.w g.w.length 0 9 = false := by simpa using h3
  rw [q0fl, h3]; simp
 have h3 : matK g.w g.w.length 0 9 = true := by simpa using h3
 refine q006.p hm2 [] rfl Tryz.call68 ?_ ?_
 ·simp -implicitDefEqProofs only [aR', go_sem]
 simp -implicitDefEqProofs only [eR', go_sem]
 refine ⟨fun h4 => ?_, fun h4 => ?_⟩
 rotate_left
 ·have h4 : matK g.v g.w.length (-1) 1 = false := by simpa using h4
  rw [q0fl, h4]; simp
 have h4 : matK g.v g.w.length (-1) 1 = true := by simpa using h4
 have hw := q0sg g (q0rz h3 h2.2)
 simp only [q0ck, nodes, rows] at hw
 refine q006.p hw [] rfl Tryz.call61 ?_ ?_
 ·simp -implicitDefEqProofs only [aR', go_sem]
 simp -implicitDefEqProofs only [eR', go_sem]
 rw [q0fl, h1, decide_eq_true h2, h3, h4]; rfl
end

section
attribute [-go_sem] q0i5
def rowK (k : Nat) (lo hi : Int) (r : List Int) : Prop := r.length = k /\ (r.all fun x => decide (lo <= x /\ x <= hi)) = true
theorem q0ju {m : List (List Int)} {k : Nat} {lo hi : Int} (hm : m.length = k) (h : ∀ i r, i < k -> m[i]? = some r -> rowK k lo hi r) : matK m k lo hi = true := by
 refine q0js.2 ⟨hm, fun r hr => ?_⟩
 obtain ⟨u, hu, rfl⟩ := List.mem_iff_getElem.1 hr
 obtain ⟨h1, h2⟩ := h u _ (by omega) (List.getElem?_eq_getElem hu)
 refine ⟨h1, fun x hx => ?_⟩
 rw [List.all_eq_true] at h2
 simpa using h2 x hx
theorem q0jt {m : List (List Int)} {k : Nat} {lo hi : Int} (h : matK m k lo hi = true) {i : Nat} {r : List Int} (hr : m[i]? = some r) : rowK k lo hi r := by
 obtain ⟨h1, h2⟩ := q0js.1 h
 obtain ⟨h3, h4⟩ := h2 r (List.mem_of_getElem? hr)
 exact ⟨h3, List.all_eq_true.2 fun x hx => decide_eq_true (h4 x hx)⟩
theorem q0fn {g : Gm} (h : q0fl g = true) : q0fv g.nd = true /\ (1 <= g.w.length /\ g.w.length <= 6) /\ matK g.w g.w.length 0 9 = true /\ matK g.v g.w.length (-1) 1 = true /\ 0 < totW g.w := by
 simp only [q0fl, Bool.and_eq_true, decide_eq_true_eq] at h
 exact ⟨h.1.1.1.1, h.1.1.1.2, h.1.1.2, h.1.2, h.2⟩
theorem q0fm {g : Gm} (h : q0fl g = true -> False) : q0fl g = false := by
 cases hc : q0fl g with
 | false => rfl
 | true => exact (h hc).elim
theorem q0ee (g : Gm) (hg : q0cf g) : Pure Tryz.prog 23 [q0ck g] (.b (q0fl g)) := by
 obtain ⟨hg1, hg2, hg3, hg4⟩ := hg
 have ht := q0ef g.nd hg1 hg2
 simp only [q0vz, nodes] at ht
 refine q0a9 (by simp) ?_
 simp -implicitDefEqProofs only [eR', go_sem, q03b, q0ck, nodes]
 refine q006.p ht [] rfl Tryz.call46 ?_ ?_
 ·simp -implicitDefEqProofs only [aR', go_sem]
 simp -implicitDefEqProofs only [eR', go_sem]
 refine ⟨fun h1 => ?_, fun h1 => ?_⟩
 rotate_left
 ·rw [q0fm fun h => by have := (q0fn h).1; rw [this] at h1; simp at h1]
 have h1 : q0fv g.nd = true := by simpa using h1
 refine q006.p (q0f9 g.w.length 1 6) [] rfl Tryz.call47 ?_ ?_
 ·simp -implicitDefEqProofs only [aR', go_sem]
 simp -implicitDefEqProofs only [eR', go_sem]
 refine ⟨fun h2 => ⟨fun h3 => ?_, fun h3 => ?_⟩, fun h2 => ?_⟩
 ·rw [q0fm fun h => by have := (q0fn h).2.2.2.1; have := (q0js.1 this).1; simp at h3; omega]
 rotate_left
 ·rw [q0fm fun h => by have := (q0fn h).2.1; have := bnT h2; simp at this; omega]
 have h2 : 1 <= g.w.length /\ g.w.length <= 6 := by have := bnF h2; simp only [decide_eq_true_eq] at this; omega
 have h3 : g.v.length = g.w.length := by simp at h3; omega
 refine SemC.loopR (σ := Nat) (fun i => St.of [(1, .own 1), (3, .t (.i g.w.length)), (24, .t (.i g.w.length)), (25, .t (.i i))] [(1, .box [nodes g.nd, rows g.w, rows g.v])]) (fun i => i <= g.w.length /\ (∀ j r, j < i -> g.w[j]? = some r -> rowK g.w.length 0 9 r) /\ ∀ j r, j < i -> g.v[j]? = some r -> rowK g.w.length (-1) 1 r) (fun i => g.w.length - i) 0 (Weak.o _ _ [some 1] ?_ ?_) ⟨by omega, fun j r hj => by omega, fun j r hj => by omega⟩ fun i hI R hn hr he => ?_
 ·simp -implicitDefEqProofs only [wR', Nat.reduceBEq, Nat.reduceEqDiff, ↓reduceIte, nodes]
 ·exact ⟨⟨_, rfl, .refl _⟩, rfl, trivial⟩
 ·obtain ⟨hi, hw, hv⟩ := hI
  rcases Nat.lt_or_ge i g.w.length with h9 | h9
  ·obtain ⟨r, hx⟩ : ∃ r, g.w[i]? = some r := ⟨_, List.getElem?_eq_getElem h9⟩
   obtain ⟨q, hy⟩ : ∃ q, g.v[i]? = some q := ⟨_, List.getElem?_eq_getElem (by omega)⟩
   have hbw : ¬ rowK g.w.length 0 9 r -> q0fl g = false := fun hc => q0fm fun h => hc (q0jt (q0fn h).2.2.1 hx)
   have hbv : ¬ rowK g.w.length (-1) 1 q -> q0fl g = false := fun hc => q0fm fun h => hc (q0jt (q0fn h).2.2.2.1 hy)
   simp -implicitDefEqProofs only [eR', go_sem, nodes, hx, hy, decide_eq_true (show (i : Int) < (g.w.length : Int) by omega)]
   refine ⟨by omega, by omega, by omega, fun h4 => ⟨by omega, by omega, by omega, ?_⟩, fun h4 => hr _ ?_⟩
   rotate_left
   ·simp -implicitDefEqProofs only [eR', go_sem]
    rw [hbw fun h => by have := h.1; simp at h4; omega]
   have h4 : r.length = g.w.length := by simp at h4; omega
   refine ⟨fun h5 => ⟨by omega, by omega, by omega, ?_⟩, fun h5 => hr _ ?_⟩
   rotate_left
   ·simp -implicitDefEqProofs only [eR', go_sem]
    rw [hbv fun h => by have := h.1; simp at h5; omega]
   have h5 : q.length = g.w.length := by simp at h5; omega
   refine q006.p (q0eg r 0 9 (by omega)) [] rfl Tryz.call48 ?_ ?_
   ·simp -implicitDefEqProofs only [aR', go_sem]
   simp -implicitDefEqProofs only [eR', go_sem, hx, hy]
   refine ⟨fun h6 => ⟨by omega, by omega, by omega, ?_⟩, fun h6 => hr _ ?_⟩
   rotate_left
   ·simp -implicitDefEqProofs only [eR', go_sem]
    rw [hbw fun h => by rw [h.2] at h6; simp at h6]
   have h6 : (r.all fun x => decide (0 <= x /\ x <= 9)) = true := by simpa using h6
   refine q006.p (q0eg q (-1) 1 (by omega)) [] rfl Tryz.call48 ?_ ?_
   ·simp -implicitDefEqProofs only [aR', go_sem]
   simp -implicitDefEqProofs only [eR', go_sem]
   refine ⟨fun h7 => hr _ ?_, fun h7 => hn _ (i + 1) (Weak.o _ _ [some 1] ?_ ?_) ⟨by omega, fun j r' hj hr' => ?_, fun j r' hj hr' => ?_⟩ (by omega)⟩
   ·simp -implicitDefEqProofs only [eR', go_sem]
    rw [hbv fun h => by rw [h.2] at h7; simp at h7]
   ·simp -implicitDefEqProofs only [wR', Nat.reduceBEq, Nat.reduceEqDiff, ↓reduceIte, nodes, q0lb h9 (by omega)]
   ·exact ⟨⟨_, rfl, .refl _⟩, rfl, trivial⟩
   ·by_cases hji : j = i
    ·subst hji; rw [hx] at hr'; cases hr'; exact ⟨h4, h6⟩
    ·exact hw j r' (by omega) hr'
   ·by_cases hji : j = i
    ·subst hji; rw [hy] at hr'; cases hr'; exact ⟨h5, bnF h7⟩
    ·exact hv j r' (by omega) hr'
  ·simp -implicitDefEqProofs only [eR', go_sem, nodes, decide_eq_false (show ¬ (i : Int) < (g.w.length : Int) by omega)]
   refine he _ _ ?_
   simp -implicitDefEqProofs only [eR', go_sem]
   have hmw : matK g.w g.w.length 0 9 = true := q0ju rfl fun j r hj hr => hw j r (by omega) hr
   have hmv : matK g.v g.w.length (-1) 1 = true := q0ju h3 fun j r hj hr => hv j r (by omega) hr
   have hW := q0f2 g (q0rz hmw h2.2)
   simp only [q0ck, nodes, rows] at hW
   refine q006.p hW [] rfl Tryz.call49 ?_ ?_
   ·simp -implicitDefEqProofs only [aR', go_sem]
   simp -implicitDefEqProofs only [eR', go_sem]
   rw [q0fl, h1, decide_eq_true h2, hmw, hmv]; rfl
end

theorem q0e5 {l : List Nd} {i : Nat} {x : Nd} (h : l[i]? = some x) (pl : Int) : idxs l pl (i + 1) = if x.p = pl then idxs l pl i ++ [(i : Int)] else idxs l pl i := by
 rw [q0ec, List.getD_eq_getElem?_getD, h]; rfl
theorem q0e7 (l : List Nd) (pl : Int) (n : Nat) : (idxs l pl n).length <= n := by
 unfold idxs
 rw [List.length_map]
 have := List.length_filter_le (fun i => decide ((l.getD i nd0).p = pl)) (List.range n)
 simpa using this
section
attribute [-go_sem] q0i5
theorem q0sa (l : List Nd) (pl : Int) (hl : l.length <= 1000000000000) : Fun Tryz.prog 80 [] [.t (q0vz l), .t (.i pl)] fun o r => o = [] /\ r = intsO (idxs l pl l.length) := by
 refine q0bq (by simp) ?_
 simp -implicitDefEqProofs only [eR', go_sem, q04s, q0vz, nodes]
 refine SemC.loopR (σ := Nat) (fun i => St.of [(1, .t (.i pl)), (2, .own 2), (5, .own 77), (6, .t (.i i))] [(2, .box [nodes l]), (77, .arr 1 ((idxs l pl i).map T.i))]) (fun i => i <= l.length) (fun i => l.length - i) 0 (Weak.o _ _ [some 2, some 7] ?_ ?_) (by omega) fun i hi R hn hr he => ?_
 ·simp -implicitDefEqProofs only [wR', Nat.reduceBEq, Nat.reduceEqDiff, ↓reduceIte, nodes]
 ·exact ⟨⟨_, rfl, .refl _⟩, rfl, ⟨_, rfl, .refl _⟩, rfl, trivial⟩
 ·rcases Nat.lt_or_ge i l.length with h9 | h9
  ·obtain ⟨x, hx⟩ : ∃ x, l[i]? = some x := ⟨_, List.getElem?_eq_getElem h9⟩
   have hil := q0e7 l pl i
   simp -implicitDefEqProofs only [eR', go_sem, nodes, q0ky hx, decide_eq_true (show (i : Int) < (l.length : Int) by omega)]
   refine ⟨by omega, by rw [q0l0]; omega, by rw [q0l0]; omega, fun h1 => ⟨by omega, ?_⟩, fun h1 => ?_⟩
   ·have h1 : x.p = pl := by simpa using h1
    refine hn _ (i + 1) (Weak.o _ _ [some 2, some 26] ?_ ?_) (by omega) (by omega)
    ·simp -implicitDefEqProofs only [wR', Nat.reduceBEq, Nat.reduceEqDiff, ↓reduceIte, nodes, q0lb h9 hl]
    ·refine ⟨⟨_, rfl, .refl _⟩, rfl, ⟨_, rfl, ?_⟩, rfl, trivial⟩
     rw [q0e5 hx, if_pos h1, List.map_append]; exact .refl _
   ·have h1 : ¬ x.p = pl := by simpa using h1
    refine hn _ (i + 1) (Weak.o _ _ [some 2, some 77] ?_ ?_) (by omega) (by omega)
    ·simp -implicitDefEqProofs only [wR', Nat.reduceBEq, Nat.reduceEqDiff, ↓reduceIte, nodes, q0lb h9 hl]
    ·refine ⟨⟨_, rfl, .refl _⟩, rfl, ⟨_, rfl, ?_⟩, rfl, trivial⟩
     rw [q0e5 hx, if_neg h1]; exact .refl _
  ·simp -implicitDefEqProofs only [eR', go_sem, nodes, decide_eq_false (show ¬ (i : Int) < (l.length : Int) by omega)]
   refine he _ _ ?_
   simp -implicitDefEqProofs only [eR', go_sem]
   rw [show i = l.length by omega]; rfl
theorem q0es (l : List Nd) (pl : Int) (hl : l.length <= 1000000000000) : Fun Tryz.prog 72 [] [.t (q0vz l), .t (.i pl)] fun o r => o = [] /\ r = intsO (idxs l pl l.length) := by
 refine q0ak (by simp) ?_
 simp -implicitDefEqProofs only [eR', go_sem, q03m, q0vz, nodes]
 refine SemC.loopR (σ := Nat) (fun i => St.of [(1, .t (.i pl)), (5, .own 77), (9, .t (nodes l)), (10, .t (.i l.length)), (11, .t (.i i))] [(77, .arr 1 ((idxs l pl i).map T.i))]) (fun i => i <= l.length) (fun i => l.length - i) 0 (Weak.o _ _ [none] ?_ ?_) (by omega) fun i hi R hn hr he => ?_
 ·simp -implicitDefEqProofs only [wR', Nat.reduceBEq, Nat.reduceEqDiff, ↓reduceIte, nodes, q0l0]
 ·exact ⟨⟨1, rfl⟩, trivial⟩
 ·rcases Nat.lt_or_ge i l.length with h9 | h9
  ·obtain ⟨x, hx⟩ : ∃ x, l[i]? = some x := ⟨_, List.getElem?_eq_getElem h9⟩
   have hil := q0e7 l pl i
   simp -implicitDefEqProofs only [eR', go_sem, nodes, q0kw hx, decide_eq_true (show (i : Int) < (l.length : Int) by omega)]
   refine ⟨by omega, by rw [q0l0]; omega, by rw [q0l0]; omega, fun h1 => ⟨by omega, ?_⟩, fun h1 => ?_⟩
   ·have h1 : x.p = pl := by simpa using h1
    refine hn _ (i + 1) (Weak.o _ _ [some 23] ?_ ?_) (by omega) (by omega)
    ·simp -implicitDefEqProofs only [wR', Nat.reduceBEq, Nat.reduceEqDiff, ↓reduceIte, nodes, q0lb h9 hl]
    ·refine ⟨⟨_, rfl, ?_⟩, rfl, trivial⟩
     rw [q0e5 hx, if_pos h1, List.map_append]; exact .refl _
   ·have h1 : ¬ x.p = pl := by simpa using h1
    refine hn _ (i + 1) (Weak.o _ _ [some 77] ?_ ?_) (by omega) (by omega)
    ·simp -implicitDefEqProofs only [wR', Nat.reduceBEq, Nat.reduceEqDiff, ↓reduceIte, nodes, q0lb h9 hl]
    ·refine ⟨⟨_, rfl, ?_⟩, rfl, trivial⟩
     rw [q0e5 hx, if_neg h1]; exact .refl _
  ·simp -implicitDefEqProofs only [eR', go_sem, nodes, decide_eq_false (show ¬ (i : Int) < (l.length : Int) by omega)]
   refine he _ _ ?_
   simp -implicitDefEqProofs only [eR', go_sem]
   rw [show i = l.length by omega]; rfl
def q0r7 (ns : List Int) (k i c : Nat) : List (List Int) := q0r3 (ns.take i) k ++ (List.range c).map fun a : Nat => [ns.getD i 0, (a : Int)]
theorem q0rc (ns : List Int) (k i : Nat) : q0r7 ns k i 0 = q0r3 (ns.take i) k := by simp [q0r7]
theorem q0rb (ns : List Int) (k i c : Nat) : q0r7 ns k i (c + 1) = q0r7 ns k i c ++ [[ns.getD i 0, (c : Int)]] := by simp [q0r7, List.range_succ]
theorem q0ra {ns : List Int} {k i : Nat} {n : Int} (h : ns[i]? = some n) : q0r7 ns k i k = q0r7 ns k (i + 1) 0 := by
 rw [q0rc, q0uj h, q0r6, q0r7, List.getD_eq_getElem?_getD, h]; rfl
theorem q0r9 (ns : List Int) (k i c : Nat) : (q0r7 ns k i c).length <= ns.length * k + c := by
 rw [q0r7, List.length_append, q0r4, List.length_map, List.length_range, List.length_take]
 have : Nat.min i ns.length * k <= ns.length * k := Nat.mul_le_mul_right _ (Nat.min_le_right _ _)
 have e : min i ns.length = Nat.min i ns.length := rfl
 rw [e]; omega
theorem q0r8 (ns : List Int) (k : Nat) : q0r7 ns k ns.length 0 = q0r3 ns k := by rw [q0rc, List.take_length]
theorem q0sb (l : List Nd) (pl : Int) (hl : l.length <= 1000000000000) : Fun Tryz.prog 80 [] [.t (.agg [.sh 5 (chunk q0lu l)]), .t (.i pl)] fun o r => o = [] /\ r = intsO (idxs l pl l.length) := q0sa l pl hl
theorem q0et (l : List Nd) (pl : Int) (hl : l.length <= 1000000000000) : Fun Tryz.prog 72 [] [.t (.agg [.sh 5 (chunk q0lu l)]), .t (.i pl)] fun o r => o = [] /\ r = intsO (idxs l pl l.length) := q0es l pl hl
theorem q0sf (g : Gm) (pl : Int) (hl : g.nd.length <= 60) (hk : g.w.length <= 6) : Fun Tryz.prog 59 [] [.t (q0ck g), .t (.i pl)] fun o r => o = [] /\ r = q0qa (sets g pl) := by
 refine q0bu (by simp) ?_
 simp -implicitDefEqProofs only [eR', go_sem, q04w, q0ck, nodes]
 refine q006.res (q0sb g.nd pl (by omega)) [] rfl Tryz.call80 ?_ (.inl rfl) ?_
 ·simp -implicitDefEqProofs only [aR', go_sem]
 simp -implicitDefEqProofs only [cR', go_sem]
 have hns := q0e7 g.nd pl g.nd.length
 have hsets : sets g pl = q0r3 (idxs g.nd pl g.nd.length) g.w.length := rfl
 rw [hsets]
 generalize idxs g.nd pl g.nd.length = ns at hns ⊢
 refine SemC.loopR (σ := Nat) (fun i => St.of [(2, .own 2), (5, .own 12), (6, .own 77), (7, .t (.i i))] [(2, .box [nodes g.nd, rows g.w, rows g.v]), (12, intsO ns), (77, .arr 1 ((q0r7 ns g.w.length i 0).map intsO))]) (fun i => i <= ns.length) (fun i => ns.length - i) 0 (Weak.o _ _ [some 2, some 12, some 13] ?_ ?_) (by omega) fun i hi R hn hr he => ?_
 ·simp -implicitDefEqProofs only [wR', Nat.reduceBEq, Nat.reduceEqDiff, ↓reduceIte, nodes]
 ·exact ⟨⟨_, rfl, .refl _⟩, rfl, ⟨_, rfl, .refl _⟩, rfl, ⟨_, rfl, .refl _⟩, rfl, trivial⟩
 ·rcases Nat.lt_or_ge i ns.length with h9 | h9
  ·obtain ⟨n, hx⟩ : ∃ n, ns[i]? = some n := ⟨_, List.getElem?_eq_getElem h9⟩
   simp -implicitDefEqProofs only [eR', go_sem, nodes, intsO, decide_eq_true (show (i : Int) < (ns.length : Int) by omega)]
   refine SemC.loopR (σ := Nat) (fun c => St.of [(2, .own 2), (5, .own 12), (6, .own 77), (7, .t (.i i)), (8, .t (.i c))] [(2, .box [nodes g.nd, rows g.w, rows g.v]), (12, intsO ns), (77, .arr 1 ((q0r7 ns g.w.length i c).map intsO))]) (fun c => c <= g.w.length) (fun c => g.w.length - c) 0 (Weak.o _ _ [some 2, some 12, some 77] ?_ ?_) (by omega) fun c hc R2 hn2 hr2 he2 => ?_
   ·simp -implicitDefEqProofs only [wR', Nat.reduceBEq, Nat.reduceEqDiff, ↓reduceIte, nodes]
   ·exact ⟨⟨_, rfl, .refl _⟩, rfl, ⟨_, rfl, .refl _⟩, rfl, ⟨_, rfl, .refl _⟩, rfl, trivial⟩
   ·rcases Nat.lt_or_ge c g.w.length with h8 | h8
    ·have hil := q0r9 ns g.w.length i c
     simp -implicitDefEqProofs only [eR', go_sem, nodes, intsO, hx, decide_eq_true (show (c : Int) < (g.w.length : Int) by omega)]
     have hmul : ns.length * g.w.length <= 60 * 6 := Nat.mul_le_mul (by omega) hk
     refine ⟨by omega, by omega, by omega, by omega, hn2 _ (c + 1) (Weak.o _ _ [some 2, some 12, some 35] ?_ ?_) (by omega) (by omega)⟩
     ·simp -implicitDefEqProofs only [wR', Nat.reduceBEq, Nat.reduceEqDiff, ↓reduceIte, nodes, q0lb h8 (by omega)]
     ·refine ⟨⟨_, rfl, .refl _⟩, rfl, ⟨_, rfl, .refl _⟩, rfl, ⟨_, rfl, ?_⟩, rfl, trivial⟩
      rw [q0rb, List.map_append, List.getD_eq_getElem?_getD, hx]; exact .refl _
    ·simp -implicitDefEqProofs only [eR', go_sem, nodes, decide_eq_false (show ¬ (c : Int) < (g.w.length : Int) by omega)]
     refine he2 _ _ ?_
     simp -implicitDefEqProofs only [eR', go_sem]
     refine hn _ (i + 1) (Weak.o _ _ [some 2, some 12, some 77] ?_ ?_) (by omega) (by omega)
     ·simp -implicitDefEqProofs only [wR', Nat.reduceBEq, Nat.reduceEqDiff, ↓reduceIte, nodes, q0lb h9 (by omega)]
     ·refine ⟨⟨_, rfl, .refl _⟩, rfl, ⟨_, rfl, .refl _⟩, rfl, ⟨_, rfl, ?_⟩, rfl, trivial⟩
      rw [show c = g.w.length by omega, q0ra hx]; exact .refl _
  ·simp -implicitDefEqProofs only [eR', go_sem, nodes, intsO, decide_eq_false (show ¬ (i : Int) < (ns.length : Int) by omega)]
   refine he _ _ ?_
   simp -implicitDefEqProofs only [eR', go_sem]
   rw [show i = ns.length by omega, q0r8]; rfl
theorem q0eo (g : Gm) (pl : Int) (hl : g.nd.length <= 60) (hk : g.w.length <= 6) : Fun Tryz.prog 51 [] [.t (q0ck g), .t (.i pl)] fun o r => o = [] /\ r = q0qa (sets g pl) := by
 refine q0ah (by simp) ?_
 simp -implicitDefEqProofs only [eR', go_sem, q03j, q0ck, nodes]
 refine q006.res (q0et g.nd pl (by omega)) [] rfl Tryz.call72 ?_ (.inl rfl) ?_
 ·simp -implicitDefEqProofs only [aR', go_sem]
 simp -implicitDefEqProofs only [cR', go_sem, intsO]
 have hns := q0e7 g.nd pl g.nd.length
 have hsets : sets g pl = q0r3 (idxs g.nd pl g.nd.length) g.w.length := rfl
 rw [hsets]
 generalize idxs g.nd pl g.nd.length = ns at hns ⊢
 refine SemC.loopR (σ := Nat) (fun i => St.of [(2, .own 2), (5, .own 77), (12, .own 12), (13, .t (.i ns.length)), (14, .t (.i i))] [(2, .box [nodes g.nd, rows g.w, rows g.v]), (12, intsO ns), (77, .arr 1 ((q0r7 ns g.w.length i 0).map intsO))]) (fun i => i <= ns.length) (fun i => ns.length - i) 0 (Weak.o _ _ [some 2, some 12, none] ?_ ?_) (by omega) fun i hi R hn hr he => ?_
 ·simp -implicitDefEqProofs only [wR', Nat.reduceBEq, Nat.reduceEqDiff, ↓reduceIte, nodes]
 ·exact ⟨⟨_, rfl, .refl _⟩, rfl, ⟨_, rfl, .refl _⟩, rfl, ⟨1, rfl⟩, trivial⟩
 ·rcases Nat.lt_or_ge i ns.length with h9 | h9
  ·obtain ⟨n, hx⟩ : ∃ n, ns[i]? = some n := ⟨_, List.getElem?_eq_getElem h9⟩
   simp -implicitDefEqProofs only [eR', go_sem, nodes, intsO, hx, decide_eq_true (show (i : Int) < (ns.length : Int) by omega)]
   refine ⟨by omega, by omega, by omega, ?_⟩
   refine SemC.loopR (σ := Nat) (fun c => St.of [(2, .own 2), (5, .own 77), (7, .t (.i n)), (12, .own 12), (13, .t (.i ns.length)), (14, .t (.i i)), (20, .t (.i g.w.length)), (21, .t (.i c))] [(2, .box [nodes g.nd, rows g.w, rows g.v]), (12, intsO ns), (77, .arr 1 ((q0r7 ns g.w.length i c).map intsO))]) (fun c => c <= g.w.length) (fun c => g.w.length - c) 0 (Weak.o _ _ [some 2, some 12, some 77] ?_ ?_) (by omega) fun c hc R2 hn2 hr2 he2 => ?_
   ·simp -implicitDefEqProofs only [wR', Nat.reduceBEq, Nat.reduceEqDiff, ↓reduceIte, nodes]
   ·exact ⟨⟨_, rfl, .refl _⟩, rfl, ⟨_, rfl, .refl _⟩, rfl, ⟨_, rfl, .refl _⟩, rfl, trivial⟩
   ·rcases Nat.lt_or_ge c g.w.length with h8 | h8
    ·have hil := q0r9 ns g.w.length i c
     simp -implicitDefEqProofs only [eR', go_sem, nodes, intsO, decide_eq_true (show (c : Int) < (g.w.length : Int) by omega)]
     have hmul : ns.length * g.w.length <= 60 * 6 := Nat.mul_le_mul (by omega) hk
     refine ⟨by omega, hn2 _ (c + 1) (Weak.o _ _ [some 2, some 12, some 29] ?_ ?_) (by omega) (by omega)⟩
     ·simp -implicitDefEqProofs only [wR', Nat.reduceBEq, Nat.reduceEqDiff, ↓reduceIte, nodes, q0lb h8 (by omega)]
     ·refine ⟨⟨_, rfl, .refl _⟩, rfl, ⟨_, rfl, .refl _⟩, rfl, ⟨_, rfl, ?_⟩, rfl, trivial⟩
      rw [q0rb, List.map_append, List.getD_eq_getElem?_getD, hx]; exact .refl _
    ·simp -implicitDefEqProofs only [eR', go_sem, nodes, decide_eq_false (show ¬ (c : Int) < (g.w.length : Int) by omega)]
     refine he2 _ _ ?_
     simp -implicitDefEqProofs only [eR', go_sem]
     refine hn _ (i + 1) (Weak.o _ _ [some 2, some 12, some 77] ?_ ?_) (by omega) (by omega)
     ·simp -implicitDefEqProofs only [wR', Nat.reduceBEq, Nat.reduceEqDiff, ↓reduceIte, nodes, q0lb h9 (by omega)]
     ·refine ⟨⟨_, rfl, .refl _⟩, rfl, ⟨_, rfl, .refl _⟩, rfl, ⟨_, rfl, ?_⟩, rfl, trivial⟩
      rw [show c = g.w.length by omega, q0ra hx]; exact .refl _
  ·simp -implicitDefEqProofs only [eR', go_sem, nodes, intsO, decide_eq_false (show ¬ (i : Int) < (ns.length : Int) by omega)]
   refine he _ _ ?_
   simp -implicitDefEqProofs only [eR', go_sem]
   rw [show i = ns.length by omega, q0r8]; rfl
end

theorem q0qz {g : Gm} {pl : Int} {i : Nat} (h : i < (sets g pl).length) : ∃ (n c : Nat) (x : Nd), (sets g pl)[i]? = some [(n : Int), (c : Int)] /\ g.nd[n]? = some x /\ n < g.nd.length /\ c < g.w.length /\ x.p = pl /\ q0rh g pl i = x.ch.length := by
 have hg := List.getElem?_eq_getElem h
 obtain ⟨n0, hn0, c, hc, e⟩ := q0r5 (List.getElem_mem h)
 obtain ⟨n, rfl, hn, hp⟩ := q0ea hn0
 rw [e] at hg
 have hx : g.nd[n]? = some g.nd[n] := List.getElem?_eq_getElem hn
 have hd : g.nd.getD n nd0 = g.nd[n] := by rw [List.getD_eq_getElem?_getD, hx]; rfl
 refine ⟨n, c, g.nd[n], hg, hx, hn, hc, by rw [← hd]; exact hp, ?_⟩
 have e0 : (sets g pl).getD i [] = [(n : Int), (c : Int)] := by rw [List.getD_eq_getElem?_getD, hg]; rfl
 rw [q0rh, e0, ← hd]; rfl
theorem q0fu {g : Gm} {pl : Int} {pt : List (List Int)} : q0ft g pl pt = true ↔ pt.length = (sets g pl).length /\ ∀ i, i < (sets g pl).length -> q0nt (q0rh g pl i) (pt.getD i []) = true := by
 simp only [q0ft, Bool.and_eq_true, decide_eq_true_eq, List.all_eq_true, List.mem_range]
theorem q17m {g : Gm} {pl : Int} {pt : List (List Int)} (h : ¬ (pt.length = (sets g pl).length /\ ∀ i, i < (sets g pl).length -> q0nt (q0rh g pl i) (pt.getD i []) = true)) : q0ft g pl pt = false := by
 cases hc : q0ft g pl pt with
 | false => rfl
 | true => exact absurd (q0fu.1 hc) h
theorem q0nu {n : Nat} {l : List Int} : q0nt n l = true ↔ l.length = n /\ (l.all fun x => decide (0 <= x /\ x <= 60)) = true /\ l.sum = 60 := by
 simp only [q0nt, Bool.and_eq_true, decide_eq_true_eq, q0u0, and_assoc]
theorem q0re (g : Gm) (pl : Int) (hl : g.nd.length <= 60) (hk : g.w.length <= 6) : (sets g pl).length <= 360 := by
 rw [q0rf]
 have := q0e7 g.nd pl g.nd.length
 have : (idxs g.nd pl g.nd.length).length * g.w.length <= 60 * 6 := Nat.mul_le_mul (by omega) hk
 omega
theorem q16a {r : List Int} (h : (r.all fun x => decide (0 <= x /\ x <= 60)) = true) (hl : r.length <= 1000) : q0rv r := by
 rw [List.all_eq_true] at h
 exact ⟨hl, fun x hx => by have := h x hx; simp only [decide_eq_true_eq] at this; omega⟩
def strB (g : Gm) (s : Int × List (List Int)) : Bool := q0fl g && decide (0 <= s.1 /\ s.1 <= 1) && q0ft g s.1 s.2
theorem q0fd (g : Gm) (pl : Int) (hl : g.nd.length <= 60) (hk : g.w.length <= 6) : Fun Tryz.prog 51 [] [.t (.agg [.sh 5 (chunk q0lu g.nd), .sh 1 (g.w.map ints), .sh 1 (g.v.map ints)]), .t (.i pl)] fun o r => o = [] /\ r = q0qa (sets g pl) := q0eo g pl hl hk
theorem q0h9 (g : Gm) (pl : Int) (hl : g.nd.length <= 60) (hk : g.w.length <= 6) : Fun Tryz.prog 59 [] [.t (.agg [.sh 5 (chunk q0lu g.nd), .sh 1 (g.w.map ints), .sh 1 (g.v.map ints)]), .t (.i pl)] fun o r => o = [] /\ r = q0qa (sets g pl) := q0sf g pl hl hk
theorem q16b (m : List (List Int)) : (T.arr 1 (m.map intsO)).toSh = T.sh 1 (m.map ints) := q17t m
section
attribute [-go_sem] q0i5 q0id fldC lenC idxC q0ip
theorem q17g (g : Gm) (s : Int × List (List Int)) (hg : q0fl g = true) (hs : q0q9 s.2) : Pure Tryz.prog 39 [q0ck g, q0tu s] (.b (q0ft g s.1 s.2)) := by
 obtain ⟨pl, pt⟩ := s
 obtain ⟨hs1, hs2⟩ := hs
 simp only [] at hs1 hs2 ⊢
 obtain ⟨p1, p2, p3, p4, p5⟩ := q0fn hg
 obtain ⟨t1, t2, t3, t4⟩ := q0g0 p1
 have hnl : ∀ {n : Nat} {x : Nd}, g.nd[n]? = some x -> x.ch.length <= 4 := fun hx => (q0ks (t2 _ _ hx)).2.2.2.2.2
 have hsl := q0re g pl t1.2 p2.2
 refine q171 (by simp) ?_
 simp -implicitDefEqProofs only [eR', go_sem, q16j, q0ck, q0tu, nodes]
 refine q006.res (q0fd g pl t1.2 p2.2) [] rfl Tryz.call51 ?_ (.inl rfl) ?_
 ·simp -implicitDefEqProofs only [aR', go_sem]
 simp -implicitDefEqProofs only [cR', go_sem, q0qa]
 refine ⟨fun h1 => ?_, fun h1 => ?_⟩
 ·have h1 : ¬ pt.length = (sets g pl).length := by simp at h1; omega
  rw [q17m fun h => h1 h.1]
 have h1 : pt.length = (sets g pl).length := by simp at h1; omega
 refine SemC.loopR (σ := Nat) (fun i => St.of [(2, .own 2), (3, .own 3), (19, .t (rows (sets g pl))), (20, .t (.i (sets g pl).length)), (21, .t (.i i))] [(2, .box [nodes g.nd, rows g.w, rows g.v]), (3, .box [.i pl, rows pt])]) (fun i => i <= (sets g pl).length /\ ∀ j, j < i -> q0nt (q0rh g pl j) (pt.getD j []) = true) (fun i => (sets g pl).length - i) 0 (Weak.trans (Weak.share 12 rfl) (Weak.o _ _ [some 2, some 3] ?_ ?_)) ⟨by omega, fun j hj => by omega⟩ fun i hI R hn hr he => ?_
 ·simp -implicitDefEqProofs only [wR', Nat.reduceBEq, Nat.reduceEqDiff, ↓reduceIte, q0rg, q16b, nodes]
 ·exact ⟨⟨_, rfl, .refl _⟩, rfl, ⟨_, rfl, .refl _⟩, rfl, trivial⟩
 ·obtain ⟨hi, hok⟩ := hI
  rcases Nat.lt_or_ge i (sets g pl).length with h9 | h9
  ·obtain ⟨n, c, x, hx1, hx2, hx3, hx4, hx5, hx6⟩ := q0qz h9
   obtain ⟨r, hr1⟩ : ∃ r, pt[i]? = some r := ⟨_, List.getElem?_eq_getElem (by omega)⟩
   have hrd : pt.getD i [] = r := by rw [List.getD_eq_getElem?_getD, hr1]; rfl
   have hno : ¬ q0nt x.ch.length r = true -> q0ft g pl pt = false := fun hc => q17m fun h => hc (by have := h.2 i h9; rwa [hx6, hrd] at this)
   have hxl := hnl hx2
   simp -implicitDefEqProofs only [eR', go_sem, nodes, hx1, hr1, q0kz hx2, decide_eq_true (show (i : Int) < ((sets g pl).length : Int) by omega)]
   refine ⟨by omega, by omega, by omega, by omega, by omega, by omega, by omega, by rw [q0l0]; omega, by rw [q0l0]; omega, fun h2 => ?_, fun h2 => hr _ ?_⟩
   rotate_left
   ·simp -implicitDefEqProofs only [eR', go_sem]
    rw [hno fun h => by have := (q0nu.1 h).1; simp at h2; omega]
   have h2 : r.length = x.ch.length := by simp at h2; omega
   refine q004.pure (q0eg r 0 60 (by omega)) [] rfl Tryz.call48 (fun e R' hR => ?_) (by first | trivial | simp [T.noSh, T.noShL, rat]) (fun _ => rfl) ?_
   ·simp -implicitDefEqProofs only [aR', go_sem]
   simp -implicitDefEqProofs only [eR', go_sem]
   refine ⟨fun h3 => ?_, fun h3 => hr _ ?_⟩
   rotate_left
   ·simp -implicitDefEqProofs only [eR', go_sem]
    rw [hno fun h => by rw [(q0nu.1 h).2.1] at h3; simp at h3]
   have h3 : (r.all fun x => decide (0 <= x /\ x <= 60)) = true := bnF h3
   refine q004.pure (q0f1 r (q16a h3 (by omega))) [] rfl Tryz.call71 (fun e R' hR => ?_) (by first | trivial | simp [T.noSh, T.noShL, rat]) (fun _ => rfl) ?_
   ·simp -implicitDefEqProofs only [aR', go_sem]
   simp -implicitDefEqProofs only [eR', go_sem]
   refine ⟨fun h4 => hr _ ?_, fun h4 => hn _ (i + 1) (Weak.o _ _ [some 2, some 3] ?_ ?_) ⟨by omega, fun j hj => ?_⟩ (by omega)⟩
   ·simp -implicitDefEqProofs only [eR', go_sem]
    rw [hno fun h => by have := (q0nu.1 h).2.2; simp at h4; omega]
   ·simp -implicitDefEqProofs only [wR', Nat.reduceBEq, Nat.reduceEqDiff, ↓reduceIte, nodes, q0lb h9 (by omega)]
   ·exact ⟨⟨_, rfl, .refl _⟩, rfl, ⟨_, rfl, .refl _⟩, rfl, trivial⟩
   ·by_cases hji : j = i
    ·subst hji; rw [hx6, hrd]; exact q0nu.2 ⟨h2, h3, by simpa using h4⟩
    ·exact hok j (by omega)
  ·simp -implicitDefEqProofs only [eR', go_sem, nodes, decide_eq_false (show ¬ (i : Int) < ((sets g pl).length : Int) by omega)]
   refine he _ _ ?_
   simp -implicitDefEqProofs only [eR', go_sem]
   rw [q0fu.2 ⟨h1, fun j hj => hok j (by omega)⟩]
end

section
attribute [-go_sem] q0i5 q0id fldC lenC idxC q0ip
theorem q0fq {f : FuncId} {g : Gm} {b : Bool} (h : Pure Tryz.prog f [q0ck g] (.b b)) : Pure Tryz.prog f [.agg [.sh 5 (chunk q0lu g.nd), .sh 1 (g.w.map ints), .sh 1 (g.v.map ints)]] (.b b) := h
theorem q17e (g : Gm) (s : Int × List (List Int)) (hg : q0cf g) (hs : q0q9 s.2) : Pure Tryz.prog 50 [q0ck g, q0tu s] (.b (strB g s)) := by
 refine q16z (by simp) ?_
 simp -implicitDefEqProofs only [eR', go_sem, q16h, q0ck, q0tu, nodes]
 refine q006.p (q0fq (q0ee g hg)) [] rfl Tryz.call23 ?_ ?_
 ·simp -implicitDefEqProofs only [aR', go_sem]
 simp -implicitDefEqProofs only [eR', go_sem]
 refine ⟨fun h1 => ?_, fun h1 => ?_⟩
 rotate_left
 ·have h1 : q0fl g = false := by simpa using h1
  rw [strB, h1]; rfl
 have h1 : q0fl g = true := by simpa using h1
 refine q006.p (q0f9 s.1 0 1) [] rfl Tryz.call47 ?_ ?_
 ·simp -implicitDefEqProofs only [aR', go_sem]
 simp -implicitDefEqProofs only [eR', go_sem]
 refine ⟨fun h2 => ?_, fun h2 => ?_⟩
 ·have h2 := bnT h2
  rw [strB, h2, Bool.and_false]; rfl
 have h2 := bnF h2
 have hst := q17g g s h1 hs
 simp only [q0ck, q0tu, nodes, rows] at hst
 refine q006.p hst [] rfl Tryz.call39 ?_ ?_
 ·simp -implicitDefEqProofs only [aR', go_sem]
 simp -implicitDefEqProofs only [eR', go_sem]
 rw [strB, h1, h2]; rfl
theorem q252 (g : Gm) (s : Int × List (List Int)) (hg : q0cf g) (hs : q0q9 s.2) : Pure Tryz.prog 58 [q0ck g, q0tu s] (.b (strB g s)) := by
 refine q235 (by simp) ?_
 simp -implicitDefEqProofs only [eR', go_sem, q21r, q0ck, q0tu, nodes]
 refine q006.p (q0fq (q0s2 g hg)) [] rfl Tryz.call35 ?_ ?_
 ·simp -implicitDefEqProofs only [aR', go_sem]
 simp -implicitDefEqProofs only [eR', go_sem]
 refine ⟨fun h1 => ?_, fun h1 => ?_⟩
 rotate_left
 ·have h1 : q0fl g = false := by simpa using h1
  rw [strB, h1]; rfl
 have h1 : q0fl g = true := by simpa using h1
 refine q006.p (q0s4 s.1 0 1) [] rfl Tryz.call67 ?_ ?_
 ·simp -implicitDefEqProofs only [aR', go_sem]
 simp -implicitDefEqProofs only [eR', go_sem]
 refine ⟨fun h2 => ?_, fun h2 => ?_⟩
 ·have h2 := bnT h2
  rw [strB, h2, Bool.and_false]; rfl
 have h2 := bnF h2
 have hstr : strB g s = q0ft g s.1 s.2 := by rw [strB, h1, h2]; rfl
 rw [hstr]
 obtain ⟨pl, pt⟩ := s
 obtain ⟨hs1, hs2⟩ := hs
 (try simp only [] at hs1 hs2 h2 ⊢)
 obtain ⟨p1, p2, p3, p4, p5⟩ := q0fn h1
 obtain ⟨t1, t2, t3, t4⟩ := q0g0 p1
 have hnl : ∀ {n : Nat} {x : Nd}, g.nd[n]? = some x -> x.ch.length <= 4 := fun hx => (q0ks (t2 _ _ hx)).2.2.2.2.2
 have hsl := q0re g pl t1.2 p2.2
 refine q006.res (q0h9 g pl t1.2 p2.2) [] rfl Tryz.call59 ?_ (.inl rfl) ?_
 ·simp -implicitDefEqProofs only [aR', go_sem]
 simp -implicitDefEqProofs only [cR', go_sem, q0qa]
 refine ⟨fun h3 => ?_, fun h3 => ?_⟩
 ·have h3 : ¬ pt.length = (sets g pl).length := by simp at h3; omega
  rw [q17m fun h => h3 h.1]
 have h3 : pt.length = (sets g pl).length := by simp at h3; omega
 refine SemC.loopR (σ := Nat) (fun i => St.of [(2, .own 2), (3, .own 3), (5, .t (rows (sets g pl))), (6, .t (.i i))] [(2, .box [nodes g.nd, rows g.w, rows g.v]), (3, .box [.i pl, rows pt])]) (fun i => i <= (sets g pl).length /\ ∀ j, j < i -> q0nt (q0rh g pl j) (pt.getD j []) = true) (fun i => (sets g pl).length - i) 0 (Weak.trans (Weak.share 20 rfl) (Weak.o _ _ [some 2, some 3] ?_ ?_)) ⟨by omega, fun j hj => by omega⟩ fun i hI R hn hr he => ?_
 ·simp -implicitDefEqProofs only [wR', Nat.reduceBEq, Nat.reduceEqDiff, ↓reduceIte, q0rg, q16b, nodes]
 ·exact ⟨⟨_, rfl, .refl _⟩, rfl, ⟨_, rfl, .refl _⟩, rfl, trivial⟩
 ·obtain ⟨hi, hok⟩ := hI
  rcases Nat.lt_or_ge i (sets g pl).length with h9 | h9
  ·obtain ⟨n, c, x, hx1, hx2, hx3, hx4, hx5, hx6⟩ := q0qz h9
   obtain ⟨r, hr1⟩ : ∃ r, pt[i]? = some r := ⟨_, List.getElem?_eq_getElem (by omega)⟩
   have hrd : pt.getD i [] = r := by rw [List.getD_eq_getElem?_getD, hr1]; rfl
   have hno : ¬ q0nt x.ch.length r = true -> q0ft g pl pt = false := fun hc => q17m fun h => hc (by have := h.2 i h9; rwa [hx6, hrd] at this)
   have hxl := hnl hx2
   simp -implicitDefEqProofs only [eR', go_sem, nodes, hx1, hr1, q0kz hx2, decide_eq_true (show (i : Int) < ((sets g pl).length : Int) by omega)]
   refine ⟨by omega, by omega, by omega, by omega, by omega, by omega, by omega, by rw [q0l0]; omega, by rw [q0l0]; omega, fun h4 => hr _ ?_, fun h4 => ?_⟩
   ·simp -implicitDefEqProofs only [eR', go_sem]
    rw [hno fun h => by have := (q0nu.1 h).1; simp at h4; omega]
   have h4 : r.length = x.ch.length := by simp at h4; omega
   refine SemC.loopR (σ := Nat) (fun k => St.of [(2, .own 2), (3, .own 3), (5, .t (rows (sets g pl))), (6, .t (.i i)), (7, .t (.i k))] [(2, .box [nodes g.nd, rows g.w, rows g.v]), (3, .box [.i pl, rows pt])]) (fun k => k <= r.length /\ ∀ t y, t < k -> r[t]? = some y -> 0 <= y /\ y <= 60) (fun k => r.length - k) 0 (Weak.o _ _ [some 2, some 3] ?_ ?_) ⟨by omega, fun t y ht => by omega⟩ fun k hK R2 hn2 hr2 he2 => ?_
   ·simp -implicitDefEqProofs only [wR', Nat.reduceBEq, Nat.reduceEqDiff, ↓reduceIte, nodes]
   ·exact ⟨⟨_, rfl, .refl _⟩, rfl, ⟨_, rfl, .refl _⟩, rfl, trivial⟩
   ·obtain ⟨hk, hels⟩ := hK
    rcases Nat.lt_or_ge k r.length with h8 | h8
    ·obtain ⟨y, hy⟩ : ∃ y, r[k]? = some y := ⟨_, List.getElem?_eq_getElem h8⟩
     simp -implicitDefEqProofs only [eR', go_sem, nodes, hr1, hy, decide_eq_true (show (k : Int) < (r.length : Int) by omega)]
     refine ⟨by omega, by omega, by omega, by omega, by omega, by omega, by omega, by omega, by omega, ?_⟩
     refine q006.p (q0s4 y 0 60) [] rfl Tryz.call67 ?_ ?_
     ·simp -implicitDefEqProofs only [aR', go_sem]
     simp -implicitDefEqProofs only [eR', go_sem]
     refine ⟨fun h5 => hr2 _ ?_, fun h5 => hn2 _ (k + 1) (Weak.o _ _ [some 2, some 3] ?_ ?_) ⟨by omega, fun t z ht hz => ?_⟩ (by omega)⟩
     ·simp -implicitDefEqProofs only [eR', go_sem]
      refine hr _ ?_
      simp -implicitDefEqProofs only [eR', go_sem]
      rw [hno fun h => by have := List.all_eq_true.1 (q0nu.1 h).2.1 y (List.mem_of_getElem? hy); rw [bnT h5] at this; simp at this]
     ·simp -implicitDefEqProofs only [wR', Nat.reduceBEq, Nat.reduceEqDiff, ↓reduceIte, nodes, q0lb h8 (by omega)]
     ·exact ⟨⟨_, rfl, .refl _⟩, rfl, ⟨_, rfl, .refl _⟩, rfl, trivial⟩
     ·by_cases htk : t = k
      ·subst htk; rw [hy] at hz; cases hz
       simpa using bnF h5
      ·exact hels t z (by omega) hz
    ·simp -implicitDefEqProofs only [eR', go_sem, nodes, hr1, decide_eq_false (show ¬ (k : Int) < (r.length : Int) by omega)]
     refine ⟨by omega, by omega, by omega, he2 _ _ ?_⟩
     have hall : (r.all fun x => decide (0 <= x /\ x <= 60)) = true := List.all_eq_true.2 fun z hz => by
      obtain ⟨u, hu, rfl⟩ := List.mem_iff_getElem.1 hz
      exact decide_eq_true (hels u _ (by omega) (List.getElem?_eq_getElem hu))
     simp -implicitDefEqProofs only [eR', go_sem, nodes, hr1]
     refine ⟨by omega, by omega, by omega, ?_⟩
     refine q006.p (q0s7 r (q16a hall (by omega))) [] rfl Tryz.call79 ?_ ?_
     ·simp -implicitDefEqProofs only [aR', go_sem]
     simp -implicitDefEqProofs only [eR', go_sem]
     refine ⟨fun h5 => hr _ ?_, fun h5 => hn _ (i + 1) (Weak.o _ _ [some 2, some 3] ?_ ?_) ⟨by omega, fun j hj => ?_⟩ (by omega)⟩
     ·simp -implicitDefEqProofs only [eR', go_sem]
      rw [hno fun h => by have := (q0nu.1 h).2.2; simp at h5; omega]
     ·simp -implicitDefEqProofs only [wR', Nat.reduceBEq, Nat.reduceEqDiff, ↓reduceIte, nodes, q0lb h9 (by omega)]
     ·exact ⟨⟨_, rfl, .refl _⟩, rfl, ⟨_, rfl, .refl _⟩, rfl, trivial⟩
     ·by_cases hji : j = i
      ·subst hji; rw [hx6, hrd]; exact q0nu.2 ⟨h4, hall, by simpa using h5⟩
      ·exact hok j (by omega)
  ·simp -implicitDefEqProofs only [eR', go_sem, nodes, decide_eq_false (show ¬ (i : Int) < ((sets g pl).length : Int) by omega)]
   refine he _ _ ?_
   simp -implicitDefEqProofs only [eR', go_sem]
   rw [q0fu.2 ⟨h3, fun j hj => hok j (by omega)⟩]
end

theorem q0o4 {g : Gm} {i a b : Nat} {x : Nd} {r : List Int} {y : Int} (hx : g.nd[i]? = some x) (hr : g.v[a]? = some r) (hy : r[b]? = some y) : pay g i a b = if (if x.f = 0 then -1 else if x.f = 1 then 1 else y) = 1 then x.b else if (if x.f = 0 then -1 else if x.f = 1 then 1 else y) = -1 then -x.a else 0 := by
 have e1 : g.nd.getD i nd0 = x := by rw [List.getD_eq_getElem?_getD, hx]; rfl
 have e2 : (g.v.getD a []).getD b 0 = y := by rw [List.getD_eq_getElem?_getD, List.getD_eq_getElem?_getD, hr, Option.getD_some, hy]; rfl
 rw [pay, e1, e2]
theorem q0cl {g : Gm} (hg : q0fl g = true) {a b : Nat} (ha : a < g.w.length) (hb : b < g.w.length) : ∃ r y, g.v[a]? = some r /\ r[b]? = some y := by
 obtain ⟨h1, h2⟩ := q0js.1 (q0fn hg).2.2.2.1
 have hx := List.getElem?_eq_getElem (show a < g.v.length by omega)
 have h3 := (h2 _ (List.getElem_mem (show a < g.v.length by omega))).1
 exact ⟨_, _, hx, List.getElem?_eq_getElem (by omega)⟩
theorem q0cn {g : Gm} (hg : q0fl g = true) {a b : Nat} (ha : a < g.w.length) (hb : b < g.w.length) : ∃ r y, g.w[a]? = some r /\ r[b]? = some y /\ 0 <= y /\ y <= 9 := by
 obtain ⟨h1, h2⟩ := q0js.1 (q0fn hg).2.2.1
 have hx := List.getElem?_eq_getElem ha
 obtain ⟨h3, h4⟩ := h2 _ (List.getElem_mem ha)
 have hl : b < g.w[a].length := by omega
 exact ⟨_, _, hx, List.getElem?_eq_getElem hl, h4 _ (List.getElem_mem hl)⟩
theorem q0oi : ∀ {p q : Nat}, p <= q -> pw p <= pw q := by
 intro p q h
 induction h with
 | refl => exact Int.le_refl _
 | step h ih => rw [q0ol]; have := q0ok (p := ‹Nat›); omega
def unit (g : Gm) : Int := totW g.w * pw (dpt g)
section
attribute [-go_sem] q0i5 q0id fldC lenC idxC q0ip
theorem q0ew (g : Gm) (hg : q0fl g = true) (i a b : Nat) (hi : i < g.nd.length) (ha : a < g.w.length) (hb : b < g.w.length) : Pure Tryz.prog 85 [q0ck g, .i i, .i a, .i b] (.i (pay g i a b)) := by
 obtain ⟨p1, p2, p3, p4, p5⟩ := q0fn hg
 obtain ⟨t1, t2, t3, t4⟩ := q0g0 p1
 obtain ⟨x, hx⟩ : ∃ x, g.nd[i]? = some x := ⟨_, List.getElem?_eq_getElem hi⟩
 obtain ⟨r, y, hr, hy⟩ := q0cl hg ha hb
 have hf := q0ks (t2 _ _ hx)
 have hal := (List.getElem?_eq_some_iff.1 hr).1
 have hbl := (List.getElem?_eq_some_iff.1 hy).1
 rw [q0o4 hx hr hy]
 refine q0am (by simp) ?_
 simp -implicitDefEqProofs only [eR', go_sem, q03o, q0ck, nodes, q0kw hx, hr, hy]
 refine ⟨by omega, by rw [q0l0]; omega, by rw [q0l0]; omega, by omega, by omega, by omega, by omega, by omega, by omega, ?_⟩
 rw [wrap64 (n := 0 - x.a) (by omega) (by omega), Int.zero_sub]
 by_cases h0 : x.f = 0
 ·simp [h0]
 ·by_cases h1 : x.f = 1
  ·simp [h1]
  ·by_cases h2 : y = 1
   ·simp [h0, h1, h2]
   ·by_cases h3 : y = -1 <;> simp [h0, h1, h2, h3]
theorem q0se (g : Gm) (hg : q0fl g = true) (i a b : Nat) (hi : i < g.nd.length) (ha : a < g.w.length) (hb : b < g.w.length) : Pure Tryz.prog 95 [q0ck g, .i i, .i a, .i b] (.i (pay g i a b)) := by
 obtain ⟨p1, p2, p3, p4, p5⟩ := q0fn hg
 obtain ⟨t1, t2, t3, t4⟩ := q0g0 p1
 obtain ⟨x, hx⟩ : ∃ x, g.nd[i]? = some x := ⟨_, List.getElem?_eq_getElem hi⟩
 obtain ⟨r, y, hr, hy⟩ := q0cl hg ha hb
 have hf := q0ks (t2 _ _ hx)
 have hal := (List.getElem?_eq_some_iff.1 hr).1
 have hbl := (List.getElem?_eq_some_iff.1 hy).1
 rw [q0o4 hx hr hy]
 refine q0bt (by simp) ?_
 simp -implicitDefEqProofs only [eR', go_sem, q04v, q0ck, nodes, q0kw hx, hr, hy]
 refine ⟨by omega, by rw [q0l0]; omega, by rw [q0l0]; omega, by omega, by omega, by omega, by omega, by omega, by omega, ?_⟩
 rw [wrap64 (n := 0 - x.a) (by omega) (by omega), Int.zero_sub]
 by_cases h0 : x.f = 0
 ·simp [h0]
 ·by_cases h1 : x.f = 1
  ·simp [h1]
  ·by_cases h2 : y = 1
   ·simp [h0, h1, h2]
   ·by_cases h3 : y = -1 <;> simp [h0, h1, h2, h3]
theorem q0ex (p : Nat) (hp : p <= 8) : Pure Tryz.prog 56 [.i 60, .i p] (.i (pw p)) := by
 refine q0an (by simp) ?_
 simp -implicitDefEqProofs only [eR', go_sem, q03p]
 refine SemC.loopR (σ := Nat) (fun i => St.of [(0, .t (.i 60)), (5, .t (.i (pw i))), (6, .t (.i p)), (7, .t (.i i))] []) (fun i => i <= p) (fun i => p - i) 0 (Weak.o _ [] [] ?_ trivial) (by omega) fun i hi R hn hr he => ?_
 ·simp -implicitDefEqProofs only [wR', Nat.reduceBEq, Nat.reduceEqDiff, ↓reduceIte, show pw 0 = 1 from rfl]
 ·rcases Nat.lt_or_ge i p with h9 | h9
  ·simp -implicitDefEqProofs only [eR', go_sem, decide_eq_true (show (i : Int) < (p : Int) by omega)]
   have hb := q0oi (show i + 1 <= 8 by omega)
   have hb0 := q0ok (p := i + 1)
   have hb8 : pw 8 = 167961600000000 := by decide
   have e : pw i * 60 = pw (i + 1) := by rw [q0ol, Int.mul_comm]
   refine hn _ (i + 1) (Weak.o _ [] [] ?_ trivial) (by omega) (by omega)
   simp -implicitDefEqProofs only [wR', Nat.reduceBEq, Nat.reduceEqDiff, ↓reduceIte, q0lb h9 (by omega), e, wrap64 (n := pw (i + 1)) (by omega) (by omega)]
  ·simp -implicitDefEqProofs only [eR', go_sem, decide_eq_false (show ¬ (i : Int) < (p : Int) by omega)]
   refine he _ _ ?_
   simp -implicitDefEqProofs only [eR', go_sem]
   rw [show i = p by omega]
theorem q0sl (p : Nat) (hp : p <= 8) : Pure Tryz.prog 62 [.i p] (.i (pw p)) := by
 refine q0bz (by simp) ?_
 simp -implicitDefEqProofs only [eR', go_sem, q051]
 refine SemC.loopR (σ := Nat) (fun i => St.of [(0, .t (.i ((p - i : Nat) : Int))), (3, .t (.i (pw i)))] []) (fun i => i <= p) (fun i => p - i) 0 (Weak.o _ [] [] ?_ trivial) (by omega) fun i hi R hn hr he => ?_
 ·simp -implicitDefEqProofs only [wR', Nat.reduceBEq, Nat.reduceEqDiff, ↓reduceIte, show pw 0 = 1 from rfl, Nat.sub_zero]
 ·rcases Nat.lt_or_ge i p with h9 | h9
  ·simp -implicitDefEqProofs only [eR', go_sem, decide_eq_true (show ((p - i : Nat) : Int) > 0 by omega)]
   have hb := q0oi (show i + 1 <= 8 by omega)
   have hb0 := q0ok (p := i + 1)
   have hb8 : pw 8 = 167961600000000 := by decide
   have e : pw i * 60 = pw (i + 1) := by rw [q0ol, Int.mul_comm]
   refine hn _ (i + 1) (Weak.o _ [] [] ?_ trivial) (by omega) (by omega)
   simp -implicitDefEqProofs only [wR', Nat.reduceBEq, Nat.reduceEqDiff, ↓reduceIte, e, wrap64 (n := pw (i + 1)) (by omega) (by omega), wrap64 (n := ((p - (i + 1) : Nat) : Int)) (by omega) (by omega), show ((p - i : Nat) : Int) - 1 = ((p - (i + 1) : Nat) : Int) by omega]
  ·simp -implicitDefEqProofs only [eR', go_sem, decide_eq_false (show ¬ ((p - i : Nat) : Int) > 0 by omega)]
   refine he _ _ ?_
   simp -implicitDefEqProofs only [eR', go_sem]
   rw [show i = p by omega]
theorem q262 {f : FuncId} {g : Gm} {n : Int} (h : Pure Tryz.prog f [q0ck g] (.i n)) : Pure Tryz.prog f [.agg [.sh 5 (chunk q0lu g.nd), .sh 1 (g.w.map ints), .sh 1 (g.v.map ints)]] (.i n) := h
theorem q080 {f : FuncId} {l : List Nd} {i n : Int} (h : Pure Tryz.prog f [q0vz l, .i i] (.i n)) : Pure Tryz.prog f [.agg [.sh 5 (chunk q0lu l)], .i i] (.i n) := h
theorem q0cm {g : Gm} (hg : q0fl g = true) : q0ry g.w /\ dep g.nd g.nd.length 0 = (dpt g : Nat) /\ dpt g <= 5 /\ 0 <= totW g.w /\ totW g.w <= 324 /\ 1 <= pw (dpt g) /\ pw (dpt g) <= 777600000 := by
 obtain ⟨p1, p2, p3, p4, p5⟩ := q0fn hg
 obtain ⟨t1, t2, t3, t4⟩ := q0g0 p1
 have hs := q0rz p3 p2.2
 have hd0 := q07x (l := g.nd) g.nd.length 0
 have hd : dpt g <= 5 := by unfold dpt; omega
 have hb := q0vk hs g.w.length
 rw [List.take_length] at hb
 have h1 := q0oi hd
 have h2 := q0ok (p := dpt g)
 have h5 : pw 5 = 777600000 := by decide
 exact ⟨hs, by unfold dpt; omega, hd, hb.1, hb.2, by omega, by omega⟩
theorem q269 {g : Gm} (hg : q0fl g = true) : 0 <= unit g /\ unit g <= 251942400000 := by
 obtain ⟨h1, h2, h3, h4, h5, h6, h7⟩ := q0cm hg
 refine ⟨Int.mul_nonneg h4 (by omega), ?_⟩
 have := Int.mul_le_mul h5 h7 (by omega) (by omega : (0 : Int) <= 324)
 unfold unit; omega
theorem q23w (g : Gm) (hg : q0fl g = true) : Pure Tryz.prog 27 [q0ck g] (.i (unit g)) := by
 obtain ⟨p1, p2, p3, p4, p5⟩ := q0fn hg
 obtain ⟨t1, t2, t3, t4⟩ := q0g0 p1
 obtain ⟨h1, h2, h3, h4, h5, h6, h7⟩ := q0cm hg
 have hub := q269 hg
 have hdep := q080 (q0ek t2 (by omega) g.nd.length 0 (by omega) (by omega) (by omega))
 rw [h2] at hdep
 refine q22x (by simp) ?_
 simp -implicitDefEqProofs only [eR', go_sem, q21j, q0ck, nodes]
 refine q004.pure (q262 (q0f2 g h1)) [] rfl Tryz.call49 (fun e R' hR => ?_) (by first | trivial | simp [T.noSh, T.noShL, rat]) (fun _ => rfl) ?_
 ·simp -implicitDefEqProofs only [aR', go_sem]
 simp -implicitDefEqProofs only [eR', go_sem]
 refine q004.pure hdep [] rfl Tryz.call57 (fun e R' hR => ?_) (by first | trivial | simp [T.noSh, T.noShL, rat]) (fun _ => rfl) ?_
 ·simp -implicitDefEqProofs only [aR', go_sem]
 simp -implicitDefEqProofs only [eR', go_sem]
 refine q004.pure (q0ex (dpt g) (by omega)) [] rfl Tryz.call56 (fun e R' hR => ?_) (by first | trivial | simp [T.noSh, T.noShL, rat]) (fun _ => rfl) ?_
 ·simp -implicitDefEqProofs only [aR', go_sem]
 simp -implicitDefEqProofs only [eR', go_sem]
 rw [wrap64 (n := totW g.w * pw (dpt g)) (by unfold unit at hub; omega) (by unfold unit at hub; omega)]; rfl
theorem q25e (g : Gm) (hg : q0fl g = true) : Pure Tryz.prog 32 [q0ck g] (.i (unit g)) := by
 obtain ⟨p1, p2, p3, p4, p5⟩ := q0fn hg
 obtain ⟨t1, t2, t3, t4⟩ := q0g0 p1
 obtain ⟨h1, h2, h3, h4, h5, h6, h7⟩ := q0cm hg
 have hub := q269 hg
 have hdep := q080 (q0s8 t2 (by omega) g.nd.length 0 (by omega) (by omega) (by omega))
 rw [h2] at hdep
 refine q23h (by simp) ?_
 simp -implicitDefEqProofs only [eR', go_sem, q223, q0ck, nodes]
 refine q004.pure (q262 (q0sg g h1)) [] rfl Tryz.call61 (fun e R' hR => ?_) (by first | trivial | simp [T.noSh, T.noShL, rat]) (fun _ => rfl) ?_
 ·simp -implicitDefEqProofs only [aR', go_sem]
 simp -implicitDefEqProofs only [eR', go_sem]
 refine q004.pure hdep [] rfl Tryz.call63 (fun e R' hR => ?_) (by first | trivial | simp [T.noSh, T.noShL, rat]) (fun _ => rfl) ?_
 ·simp -implicitDefEqProofs only [aR', go_sem]
 simp -implicitDefEqProofs only [eR', go_sem]
 refine q004.pure (q0sl (dpt g) (by omega)) [] rfl Tryz.call62 (fun e R' hR => ?_) (by first | trivial | simp [T.noSh, T.noShL, rat]) (fun _ => rfl) ?_
 ·simp -implicitDefEqProofs only [aR', go_sem]
 simp -implicitDefEqProofs only [eR', go_sem]
 rw [wrap64 (n := totW g.w * pw (dpt g)) (by unfold unit at hub; omega) (by unfold unit at hub; omega)]; rfl
theorem q0e6 {l : List Nd} {pl : Int} {i n : Nat} (hi : i < n) (hp : (l.getD i nd0).p = pl) {j : Nat} {y : Int} (hj : j <= (idxs l pl i).length) (hy : (idxs l pl n)[j]? = some y) : (y = i ↔ j = (idxs l pl i).length) := by
 obtain ⟨rest, e⟩ := q0eb l pl hp n hi
 rw [e] at hy
 rcases Nat.lt_or_ge j (idxs l pl i).length with h | h
 ·rw [List.getElem?_append_left h] at hy
  obtain ⟨k, rfl, hk, _⟩ := q0ea (List.mem_of_getElem? hy)
  constructor
  ·intro h1; omega
  ·intro h1; omega
 ·rw [List.getElem?_append_right h, show j - (idxs l pl i).length = 0 by omega] at hy
  have : (i : Int) = y := by simpa using hy
  constructor
  ·intro; omega
  ·intro; omega
theorem q0e8 {l : List Nd} {pl : Int} {i n : Nat} (hi : i < n) (hp : (l.getD i nd0).p = pl) : (idxs l pl i).length < (idxs l pl n).length := by
 obtain ⟨rest, e⟩ := q0eb l pl hp n hi
 rw [e]; simp
theorem q0sm (g : Gm) (hg : q0fl g = true) (pl : Int) (i c : Nat) (hi : i < g.nd.length) (hp : (g.nd.getD i nd0).p = pl) (hc : c < g.w.length) : Pure Tryz.prog 96 [q0ck g, .i pl, .i i, .i c] (.i (setI g pl i c)) := by
 obtain ⟨p1, p2, p3, p4, p5⟩ := q0fn hg
 obtain ⟨t1, t2, t3, t4⟩ := q0g0 p1
 have hlt := q0e8 hi hp
 have hbf : ∀ {j : Nat} {y : Int}, j <= (idxs g.nd pl i).length -> (idxs g.nd pl g.nd.length)[j]? = some y -> (y = i ↔ j = (idxs g.nd pl i).length) := fun hj hy => q0e6 hi hp hj hy
 have hlen := q0e7 g.nd pl g.nd.length
 refine q0c0 (by simp) ?_
 simp -implicitDefEqProofs only [eR', go_sem, q052, q0ck, nodes]
 refine q006.res (q0sb g.nd pl (by omega)) [] rfl Tryz.call80 ?_ (.inl rfl) ?_
 ·simp -implicitDefEqProofs only [aR', go_sem]
 simp -implicitDefEqProofs only [cR', go_sem, intsO]
 unfold setI
 generalize idxs g.nd pl g.nd.length = ns at hlt hbf hlen ⊢
 generalize hm : (idxs g.nd pl i).length = m at hlt hbf ⊢
 refine SemC.loopR (σ := Nat) (fun j => St.of [(2, .t (.i i)), (3, .t (.i c)), (4, .own 4), (9, .own 14), (10, .t (.i j))] [(4, .box [nodes g.nd, rows g.w, rows g.v]), (14, intsO ns)]) (fun j => j <= m) (fun j => m - j) 0 (Weak.o _ _ [some 4, some 14] ?_ ?_) (by omega) fun j hj R hn hr he => ?_
 ·simp -implicitDefEqProofs only [wR', Nat.reduceBEq, Nat.reduceEqDiff, ↓reduceIte, nodes]
 ·exact ⟨⟨_, rfl, .refl _⟩, rfl, ⟨_, rfl, .refl _⟩, rfl, trivial⟩
 ·obtain ⟨y, hy⟩ : ∃ y, ns[j]? = some y := ⟨_, List.getElem?_eq_getElem (by omega)⟩
  have hiff := hbf hj hy
  have hmul : j * g.w.length <= 60 * 6 := Nat.mul_le_mul (by omega) p2.2
  have hcast : (j : Int) * (g.w.length : Int) = ((j * g.w.length : Nat) : Int) := by rw [Int.natCast_mul]
  simp -implicitDefEqProofs only [eR', go_sem, nodes, intsO, hy, decide_eq_true (show (j : Int) < (ns.length : Int) by omega)]
  refine ⟨by omega, by omega, by omega, fun h1 => hr _ ?_, fun h1 => hn _ (j + 1) (Weak.o _ _ [some 4, some 14] ?_ ?_) ?_ ?_⟩
  ·have h1 : j = m := hiff.1 (by simpa using h1)
   simp -implicitDefEqProofs only [eR', go_sem, hcast, wrap64 (n := ((j * g.w.length : Nat) : Int)) (by omega) (by omega), wrap64 (n := ((j * g.w.length : Nat) : Int) + (c : Int)) (by omega) (by omega)]
   rw [h1]; rfl
  ·simp -implicitDefEqProofs only [wR', Nat.reduceBEq, Nat.reduceEqDiff, ↓reduceIte, nodes, intsO, q0lb (show j < ns.length by omega) (by omega)]
  ·exact ⟨⟨_, rfl, .refl _⟩, rfl, ⟨_, rfl, .refl _⟩, rfl, trivial⟩
  ·have h1 : ¬ j = m := fun h => by have := hiff.2 h; simp at h1; omega
   omega
  ·have h1 : ¬ j = m := fun h => by have := hiff.2 h; simp at h1; omega
   omega
end

def q03e : CC :=
 (.seq (.reg [.o (.box 2 (sl 0)),.o (.box 3 (sl 1)),.o (.move 4 (ci 0)),.o (.alloc 5 [.v (.int .i64 0), .v (.slice none 0 0)])])
 ((.seq (.reg [ln 16 3 2,fl 17 0 3,l1 18 17,.o (.bin 19 .sub (ci 1) (sl 18)),fl 20 1 3,l1 21 20,.o (.build 22 [.v (.slice none 0 0), .v (.slice none 0 0), .v (.slice none 0 0), .v (.int .i64 0), .v (.int .i64 0), .v (.slice none 0 0), .v (.slice none 0 0), .v (.slice none 0 0), .v (.int .i64 0), .v (.slice none 0 0)] [(0, 3), (3, 1), (4, 1), (5, 1), (6, 1), (7, 1), (8, 2)] [(0, (sl 16)), (1, (sl 19)), (5, (sl 21))]),.o (.alloc 6 [.v (.slice none 0 0), .v (.slice none 0 0), .v (.slice none 0 0), .v (.int .i64 0), .v (.int .i64 0), .v (.slice none 0 0), .v (.slice none 0 0), .v (.slice none 0 0), .v (.int .i64 0), .v (.slice none 0 0)]),.o (.store 10 (sl 6) (sl 22))])
 ((.seq (.draw [27, 32] [kr (fl 23 0 2),kr (fl 24 0 23),kr (l1 25 24),kr (.o (.lenS 26 (sl 25))),(kN, .o (.make 27 [.v (.int .i64 0)] 8 (sl 26) (sl 26))),(.r false [6, 27], fl 28 0 2),(.r false [6, 27], fl 29 0 28),(.r false [6, 27], l1 30 29),(.r false [6, 27], .o (.lenS 31 (sl 30))),(kN, .o (.make 32 [.v (.int .i64 0)] 8 (sl 31) (sl 31))),(.r false [32], fl 33 5 6),(.h (some [6, 27]) [32], .o (.store 1 (sl 33) (sl 27))),kr (fl 34 6 6),(kH, .o (.store 1 (sl 34) (sl 32)))])
 ((.seq (.reg [fl 35 1 2,l1 36 35,.o (.lenS 37 (sl 36)),mv 7 37])
 ((.seq (.seq (.reg [fl 38 0 2,ln 39 1 38,fl 40 3 6,l1 41 40,.o (.call (some 42) (cf 72) [(sl 39), (sl 41)]),.o (.lenS 43 (sl 42)),.o (.move 44 (ci 0))])
 ((.block 0 (.loop (.seq (.reg [.o (.bin 45 .lss (sl 44) (sl 43))])
 ((.seq (.cond (sl 45) .skip
 (.exit 0))
 ((.seq (.block 1 (.seq (.reg [mv 46 44,ix 47 42 44,l1 48 47,mv 8 46,mv 9 48])
 ((.reg [fl 49 5 6,l1 50 49,mv 51 9,mv 52 8,mv 53 7,.o (.bin 54 .mul (sl 52) (sl 53)),ix 55 50 51,.o (.store 1 (sl 55) (sl 54))]))))
 ((.reg [.o (.bin 56 .add (sl 44) (ci 1)),mv 44 56])))))))))))
 ((.seq (.seq (.reg [fl 57 0 2,ln 58 1 57,fl 59 0 3,l1 60 59,.o (.call (some 61) (cf 72) [(sl 58), (sl 60)]),.o (.lenS 62 (sl 61)),.o (.move 63 (ci 0))])
 ((.block 2 (.loop (.seq (.reg [.o (.bin 64 .lss (sl 63) (sl 62))])
 ((.seq (.cond (sl 64) .skip
 (.exit 2))
 ((.seq (.block 3 (.seq (.reg [mv 65 63,ix 66 61 63,l1 67 66,mv 10 65,mv 11 67])
 ((.reg [fl 68 6 6,l1 69 68,mv 70 11,mv 71 10,mv 72 7,.o (.bin 73 .mul (sl 71) (sl 72)),ix 74 69 70,.o (.store 1 (sl 74) (sl 73))]))))
 ((.reg [.o (.bin 75 .add (sl 63) (ci 1)),mv 63 75])))))))))))
 ((.seq (.draw [83, 86] [kr (fl 76 3 6),kr (l1 77 76),kr (mv 78 7),kr (fl 79 0 2),kr (ln 80 1 79),kr (fl 81 3 6),kr (l1 82 81),(.c false [], .o (.call (some 83) (cf 72) [(sl 80), (sl 82)])),kr (.o (.lenS 84 (sl 83))),kr (.o (.bin 85 .mul (sl 78) (sl 84))),(kN, .o (.make 86 [.v (.slice none 0 0)] 24 (sl 85) (sl 85))),kr (.o (.build 87 [.v (.int .i64 0), .v (.slice none 0 0)] [(0, 1), (1, 1)] [(0, (sl 77)), (1, (sl 86))])),kr (fl 88 8 6),(kH, .o (.store 2 (sl 88) (sl 87)))])
 ((.seq (.reg [.o (.move 12 (ci 0))])
 ((.seq (.seq (.reg [mv 89 7,.o (.move 90 (ci 0))])
 ((.block 4 (.loop (.seq (.reg [.o (.bin 91 .lss (sl 90) (sl 89))])
 ((.seq (.cond (sl 91) .skip
 (.exit 4))
 ((.seq (.block 5 (.seq (.reg [mv 92 90,mv 13 92])
 ((.seq (.reg [mv 93 13,fl 94 4 6,.o (.store 1 (sl 94) (sl 93))])
 ((.seq (.reg [mv 95 7,.o (.make 96 [.v (.int .i64 0)] 8 (sl 95) (sl 95)),mv 14 96])
 ((.seq (.seq (.reg [mv 97 14,.o (.lenS 98 (sl 97)),.o (.move 99 (ci 0))])
 ((.block 6 (.loop (.seq (.reg [.o (.bin 100 .lss (sl 99) (sl 98))])
 ((.seq (.cond (sl 100) .skip
 (.exit 6))
 ((.seq (.block 7 (.seq (.reg [mv 101 99,mv 15 101])
 ((.seq (.reg [fl 102 3 6,l1 103 102,.o (.bin 104 .eql (sl 103) (ci 0))])
 ((.cond (sl 104) (.reg [mv 105 14,mv 106 15,fl 107 1 2,l1 108 107,mv 109 13,ix 110 108 109,l1 111 110,mv 112 15,ix 113 111 112,l1 114 113,ix 115 105 106,.o (.store 1 (sl 115) (sl 114))])
 (.reg [mv 116 14,mv 117 15,fl 118 1 2,l1 119 118,mv 120 15,ix 121 119 120,l1 122 121,mv 123 13,ix 124 122 123,l1 125 124,ix 126 116 117,.o (.store 1 (sl 126) (sl 125))])))))))
 ((.reg [.o (.bin 127 .add (sl 99) (ci 1)),mv 99 127])))))))))))
 ((.weak (.reg [mv 128 12,mv 129 14,fl 130 0 2,ln 131 1 130,.o (.call (some 132) (cf 57) [(sl 131), (ci 0)]),.o (.call (some 133) (cf 73) [(sl 6), (ci 0), (sl 129), (sl 132)]),.o (.bin 134 .add (sl 128) (sl 133)),mv 12 134])))))))))))
 ((.reg [.o (.bin 135 .add (sl 90) (ci 1)),mv 90 135])))))))))))
 ((.seq (.weak (.draw [] [kr (mv 136 12),kr (fl 137 8 6),kr (ln 138 2 137),kr (mv 4 136),(kH, .o (.store 2 (sl 5) (sl 138)))]))
 (.ret))))))))))))))))))))
theorem q0ac {rin args Q} (ha : args.length <= 139) (h : fW 139 q03e [.tmp 4, .cell 5 31] rin args Q) : Fun Tryz.prog 40 rin args Q :=
 Fun.of (H := ⟨[], [28, 30]⟩) Tryz.func40 rfl rfl rfl (by kernel_rfl) ha (by decide) h

def q039 : CC :=
 (.seq (.reg [.o (.move 8 (ci 0))])
 ((.seq (.reg [mv 25 0,.o (.nilc 26 (sl 25)),fl 27 0 26,fl 28 0 27,fl 29 0 28,l1 30 29,mv 31 1,.o (.idx 32 5 (sl 30) (sl 31)),ln 33 5 32,.o (.alloc 9 [.v (.int .i64 0), .v (.int .i64 0), .v (.int .i64 0), .v (.int .i64 0), .v (.slice none 0 0)]),.o (.store 5 (sl 9) (sl 33))])
 ((.seq (.seq (.reg [fl 34 0 9,l1 35 34])
 ((.block 0 (.seq (.reg [.o (.bin 37 .eql (sl 35) (ci 2)),mv 36 37])
 ((.cond (sl 36) (.seq (.reg [.o (.move 10 (ci 0))])
 ((.seq (.seq (.reg [mv 38 2,.o (.lenS 39 (sl 38)),.o (.move 40 (ci 0))])
 ((.block 1 (.loop (.seq (.reg [.o (.bin 41 .lss (sl 40) (sl 39))])
 ((.seq (.cond (sl 41) .skip
 (.exit 1))
 ((.seq (.block 2 (.seq (.reg [mv 42 40,ix 43 38 40,l1 44 43,mv 11 42,mv 12 44])
 ((.seq (.reg [mv 45 0,.o (.nilc 46 (sl 45)),fl 47 3 46,l1 48 47,.o (.bin 49 .eql (sl 48) (ci 0))])
 ((.cond (sl 49) (.draw [] [kr (mv 50 10),kr (mv 51 12),kr (mv 52 0),kr (.o (.nilc 53 (sl 52))),kr (fl 54 0 53),kr (ln 55 3 54),kr (mv 56 1),kr (mv 57 0),kr (.o (.nilc 58 (sl 57))),kr (fl 59 4 58),kr (l1 60 59),kr (mv 61 11),kr (.o (.call (some 62) (cf 85) [(sl 55), (sl 56), (sl 60), (sl 61)])),kr (.o (.bin 63 .mul (sl 51) (sl 62))),kr (.o (.bin 64 .add (sl 50) (sl 63))),kr (mv 10 64)])
 (.draw [] [kr (mv 65 10),kr (mv 66 12),kr (mv 67 0),kr (.o (.nilc 68 (sl 67))),kr (fl 69 0 68),kr (ln 70 3 69),kr (mv 71 1),kr (mv 72 11),kr (mv 73 0),kr (.o (.nilc 74 (sl 73))),kr (fl 75 4 74),kr (l1 76 75),kr (.o (.call (some 77) (cf 85) [(sl 70), (sl 71), (sl 72), (sl 76)])),kr (.o (.bin 78 .mul (sl 66) (sl 77))),kr (.o (.bin 79 .sub (sl 65) (sl 78))),kr (mv 10 79)])))))))
 ((.reg [.o (.bin 80 .add (sl 40) (ci 1)),mv 40 80])))))))))))
 ((.seq (.reg [mv 81 10,mv 82 3,.o (.call (some 83) (cf 56) [(ci 60), (sl 82)]),.o (.bin 84 .mul (sl 81) (sl 83)),mv 8 84])
 (.ret))))))
 (.seq (.reg [mv 86 0,.o (.nilc 87 (sl 86)),fl 88 3 87,l1 89 88,.o (.bin 90 .eql (sl 35) (sl 89)),mv 85 90])
 ((.cond (sl 85) (.seq (.reg [.o (.move 13 (ci 0)),.o (.move 14 (ci 0))])
 ((.seq (.seq (.reg [fl 91 4 9,l1 92 91,.o (.lenS 93 (sl 92)),.o (.move 94 (ci 0))])
 ((.block 3 (.loop (.seq (.reg [.o (.bin 95 .lss (sl 94) (sl 93))])
 ((.seq (.cond (sl 95) .skip
 (.exit 3))
 ((.seq (.block 4 (.seq (.reg [mv 96 94,ix 97 92 94,l1 98 97,mv 15 96,mv 16 98])
 ((.seq (.reg [mv 99 0,mv 100 16,mv 101 2,mv 102 3,.o (.bin 103 .sub (sl 102) (ci 1)),.o (.call (some 104) (cf 73) [(sl 99), (sl 100), (sl 101), (sl 103)]),mv 17 104])
 ((.seq (.reg [mv 105 15,.o (.bin 106 .eql (sl 105) (ci 0)),mv 107 106,.g 107 false (some 108) (.move 108 (sl 17)),.g 107 false (some 109) (.move 109 (sl 14)),.g 107 false (some 110) (.bin 110 .gtr (sl 108) (sl 109)),.o (.pick 111 (sl 107) (cb true) (sl 110))])
 ((.cond (sl 111) (.reg [mv 112 15,mv 113 17,mv 13 112,mv 14 113])
 .skip))))))))
 ((.reg [.o (.bin 114 .add (sl 94) (ci 1)),mv 94 114])))))))))))
 ((.seq (.reg [fl 115 4 9,l1 116 115,.o (.lenS 117 (sl 116)),.o (.make 118 [.v (.int .i64 0)] 8 (sl 117) (sl 117)),mv 18 118])
 ((.seq (.reg [mv 119 18,mv 120 13,ix 121 119 120,.o (.store 1 (sl 121) (ci 60))])
 ((.seq (.weak (.draw [] [kr (mv 122 0),kr (.o (.nilc 123 (sl 122))),kr (fl 124 8 123),kr (fl 125 1 124),kr (l1 126 125),kr (mv 127 0),kr (.o (.nilc 128 (sl 127))),kr (fl 129 5 128),kr (l1 130 129),kr (mv 131 1),kr (ix 132 130 131),kr (l1 133 132),kr (mv 134 0),kr (.o (.nilc 135 (sl 134))),kr (fl 136 4 135),kr (l1 137 136),kr (.o (.bin 138 .add (sl 133) (sl 137))),kr (mv 139 18),kr (ix 140 126 138),(kH, .o (.store 1 (sl 140) (sl 139)))]))
 ((.seq (.weak (.reg [mv 141 14,.o (.bin 142 .mul (sl 141) (ci 60)),mv 8 142]))
 (.ret))))))))))))
 .skip)))))))))
 ((.seq (.reg [.o (.move 19 (ci 0))])
 ((.seq (.seq (.reg [fl 143 4 9,l1 144 143,.o (.lenS 145 (sl 144)),.o (.move 146 (ci 0))])
 ((.block 5 (.loop (.seq (.reg [.o (.bin 147 .lss (sl 146) (sl 145))])
 ((.seq (.cond (sl 147) .skip
 (.exit 5))
 ((.seq (.block 6 (.seq (.reg [mv 148 146,ix 149 144 146,l1 150 149,mv 20 148,mv 21 150])
 ((.seq (.reg [mv 151 2,.o (.lenS 152 (sl 151)),.o (.make 153 [.v (.int .i64 0)] 8 (sl 152) (sl 152)),mv 22 153])
 ((.seq (.seq (.reg [mv 154 2,.o (.lenS 155 (sl 154)),.o (.move 156 (ci 0))])
 ((.block 7 (.loop (.seq (.reg [.o (.bin 157 .lss (sl 156) (sl 155))])
 ((.seq (.cond (sl 157) .skip
 (.exit 7))
 ((.seq (.block 8 (.seq (.reg [mv 158 156,ix 159 154 156,l1 160 159,mv 23 158,mv 24 160])
 ((.draw [] [kr (mv 161 22),kr (mv 162 23),kr (mv 163 24),kr (mv 164 0),kr (.o (.nilc 165 (sl 164))),kr (fl 166 7 165),kr (l1 167 166),kr (mv 168 0),kr (.o (.nilc 169 (sl 168))),kr (fl 170 6 169),kr (l1 171 170),kr (mv 172 1),kr (ix 173 171 172),kr (l1 174 173),kr (mv 175 23),kr (.o (.bin 176 .add (sl 174) (sl 175))),kr (ix 177 167 176),kr (l1 178 177),kr (mv 179 20),kr (ix 180 178 179),kr (l1 181 180),kr (.o (.bin 182 .mul (sl 163) (sl 181))),kr (ix 183 161 162),(kH, .o (.store 1 (sl 183) (sl 182)))]))))
 ((.reg [.o (.bin 184 .add (sl 156) (ci 1)),mv 156 184])))))))))))
 ((.weak (.reg [mv 185 19,mv 186 0,mv 187 21,mv 188 22,mv 189 3,.o (.bin 190 .sub (sl 189) (ci 1)),.o (.call (some 191) (cf 73) [(sl 186), (sl 187), (sl 188), (sl 190)]),.o (.bin 192 .add (sl 185) (sl 191)),mv 19 192])))))))))
 ((.reg [.o (.bin 193 .add (sl 146) (ci 1)),mv 146 193])))))))))))
 ((.seq (.reg [mv 194 19,mv 8 194])
 (.ret))))))))))))
theorem q0a7 {rin args Q} (ha : args.length <= 195) (h : fW 195 q039 [.tmp 8] rin args Q) : Fun Tryz.prog 73 rin args Q :=
 Fun.of (H := ⟨[], [24, 25, 36]⟩) Tryz.func73 rfl rfl rfl (by kernel_rfl) ha (by decide) h

def q056 : CC :=
 (.seq (.reg [.o (.box 2 (sl 0)),.o (.box 3 (sl 1)),.o (.move 4 (ci 0)),.o (.alloc 5 [.v (.int .i64 0), .v (.slice none 0 0)])])
 ((.seq (.reg [ln 13 3 2,fl 14 0 3,l1 15 14,.o (.bin 16 .sub (ci 1) (sl 15)),ln 17 2 3,.o (.build 18 [.v (.slice none 0 0), .v (.slice none 0 0), .v (.slice none 0 0), .v (.int .i64 0), .v (.int .i64 0), .v (.slice none 0 0), .v (.slice none 0 0)] [(0, 3), (3, 1), (4, 2), (6, 1)] [(0, (sl 13)), (1, (sl 16)), (2, (sl 17))]),.o (.box 19 (sl 18)),mv 6 19])
 ((.seq (.draw [26, 28] [kr (mv 20 6),kr (ln 21 3 2),kr (mv 22 6),kr (.o (.nilc 23 (sl 22))),kr (fl 24 3 23),kr (l1 25 24),(.c false [], .o (.call (some 26) (cf 59) [(sl 21), (sl 25)])),kr (.o (.lenS 27 (sl 26))),(kN, .o (.make 28 [.v (.slice none 0 0)] 24 (sl 27) (sl 27))),kr (.o (.nilc 29 (sl 20))),kr (fl 30 6 29),(kH, .o (.store 1 (sl 30) (sl 28)))])
 ((.seq (.reg [.o (.move 7 (ci 0))])
 ((.seq (.seq (.reg [.o (.move 8 (ci 0))])
 ((.block 0 (.loop (.seq (.seq (.reg [mv 31 8,fl 32 1 2,l1 33 32,.o (.lenS 34 (sl 33)),.o (.bin 35 .lss (sl 31) (sl 34))])
 ((.cond (sl 35) .skip
 (.exit 0))))
 ((.seq (.block 1 (.seq (.reg [.o (.bslice 38 1 0 []),mv 9 38])
 ((.seq (.seq (.reg [.o (.move 10 (ci 0))])
 ((.block 2 (.loop (.seq (.seq (.reg [mv 39 10,fl 40 1 2,l1 41 40,.o (.lenS 42 (sl 41)),.o (.bin 43 .lss (sl 39) (sl 42))])
 ((.cond (sl 43) .skip
 (.exit 2))))
 ((.seq (.block 3 (.seq (.reg [mv 47 6,mv 48 8,mv 49 10,.o (.call (some 50) (cf 86) [(sl 47), (sl 48), (sl 49)]),mv 46 50,.o (.extract 51 (sl 46) 0),.o (.extract 52 (sl 46) 1),mv 11 51,mv 12 52])
 ((.reg [mv 53 9,fl 54 1 2,l1 55 54,mv 56 11,ix 57 55 56,l1 58 57,mv 59 12,ix 60 58 59,l1 61 60,.o (.bslice 62 1 1 [(0, (sl 61))]),.o (.app 63 1 8 (sl 53) (sl 62)),mv 9 63]))))
 ((.reg [mv 44 10,.o (.bin 45 .add (sl 44) (ci 1)),mv 10 45])))))))))
 ((.weak (.reg [mv 64 7,mv 65 6,mv 66 8,mv 67 9,fl 68 0 2,ln 69 1 68,.o (.call (some 70) (cf 63) [(sl 69), (ci 0)]),.o (.call (some 71) (cf 87) [(sl 65), (ci 0), (sl 66), (sl 67), (sl 70)]),.o (.bin 72 .add (sl 64) (sl 71)),mv 7 72])))))))
 ((.reg [mv 36 8,.o (.bin 37 .add (sl 36) (ci 1)),mv 8 37])))))))))
 ((.seq (.weak (.draw [] [kr (mv 73 7),kr (mv 74 6),kr (.o (.nilc 75 (sl 74))),kr (fl 76 3 75),kr (l1 77 76),kr (mv 78 6),kr (.o (.nilc 79 (sl 78))),kr (fl 80 6 79),kr (l1 81 80),kr (.o (.build 82 [.v (.int .i64 0), .v (.slice none 0 0)] [(0, 1), (1, 1)] [(0, (sl 77)), (1, (sl 81))])),kr (mv 4 73),(kH, .o (.store 2 (sl 5) (sl 82)))]))
 (.ret))))))))))))
theorem q0c4 {rin args Q} (ha : args.length <= 83) (h : fW 83 q056 [.tmp 4, .cell 5 31] rin args Q) : Fun Tryz.prog 74 rin args Q :=
 Fun.of (H := ⟨[], [13, 14]⟩) Tryz.func74 rfl rfl rfl (by kernel_rfl) ha (by decide) h

def q057 : CC :=
 (.seq (.reg [.o (.move 10 (ci 0))])
 ((.seq (.reg [mv 26 0,.o (.nilc 27 (sl 26)),fl 28 0 27,fl 29 0 28,fl 30 0 29,l1 31 30,mv 32 1,.o (.idx 33 5 (sl 31) (sl 32)),ln 34 5 33,.o (.alloc 11 [.v (.int .i64 0), .v (.int .i64 0), .v (.int .i64 0), .v (.int .i64 0), .v (.slice none 0 0)]),.o (.store 5 (sl 11) (sl 34))])
 ((.seq (.seq (.reg [fl 35 0 11,l1 36 35])
 ((.block 0 (.seq (.reg [.o (.bin 38 .eql (sl 36) (ci 2)),mv 37 38])
 ((.cond (sl 37) (.seq (.reg [.o (.move 12 (ci 0))])
 ((.seq (.seq (.reg [.o (.move 13 (ci 0))])
 ((.block 1 (.loop (.seq (.seq (.reg [mv 39 13,mv 40 3,.o (.lenS 41 (sl 40)),.o (.bin 42 .lss (sl 39) (sl 41))])
 ((.cond (sl 42) .skip
 (.exit 1))))
 ((.seq (.block 2 (.seq (.reg [mv 46 0,mv 47 2,mv 48 13,.o (.call (some 49) (cf 86) [(sl 46), (sl 47), (sl 48)]),mv 45 49,.o (.extract 50 (sl 45) 0),.o (.extract 51 (sl 45) 1),mv 14 50,mv 15 51])
 ((.seq (.reg [mv 52 0,.o (.nilc 53 (sl 52)),fl 54 0 53,ln 55 3 54,mv 56 1,mv 57 14,mv 58 15,.o (.call (some 59) (cf 95) [(sl 55), (sl 56), (sl 57), (sl 58)]),mv 16 59])
 ((.seq (.seq (.reg [mv 60 0,.o (.nilc 61 (sl 60)),fl 62 3 61,l1 63 62,.o (.bin 64 .eql (sl 63) (ci 1))])
 ((.cond (sl 64) (.reg [mv 65 16,.o (.un 66 .neg (sl 65)),mv 16 66])
 .skip)))
 ((.draw [] [kr (mv 67 12),kr (mv 68 3),kr (mv 69 13),kr (ix 70 68 69),kr (l1 71 70),kr (mv 72 16),kr (.o (.bin 73 .mul (sl 71) (sl 72))),kr (mv 74 4),kr (.o (.call (some 75) (cf 62) [(sl 74)])),kr (.o (.bin 76 .mul (sl 73) (sl 75))),kr (.o (.bin 77 .add (sl 67) (sl 76))),kr (mv 12 77)]))))))))
 ((.reg [mv 43 13,.o (.bin 44 .add (sl 43) (ci 1)),mv 13 44])))))))))
 ((.seq (.reg [mv 78 12,mv 10 78])
 (.ret))))))
 (.seq (.reg [mv 80 0,.o (.nilc 81 (sl 80)),fl 82 3 81,l1 83 82,.o (.bin 84 .eql (sl 36) (sl 83)),mv 79 84])
 ((.cond (sl 79) (.seq (.reg [.o (.move 17 (ci 0)),.o (.move 18 (ci 0))])
 ((.seq (.seq (.reg [.o (.move 19 (ci 0))])
 ((.block 3 (.loop (.seq (.seq (.reg [mv 85 19,fl 86 4 11,l1 87 86,.o (.lenS 88 (sl 87)),.o (.bin 89 .lss (sl 85) (sl 88))])
 ((.cond (sl 89) .skip
 (.exit 3))))
 ((.seq (.block 4 (.seq (.reg [mv 92 0,fl 93 4 11,l1 94 93,mv 95 19,ix 96 94 95,l1 97 96,mv 98 2,mv 99 3,mv 100 4,.o (.call (some 101) (cf 87) [(sl 92), (sl 97), (sl 98), (sl 99), (sl 100)]),mv 20 101])
 ((.seq (.reg [mv 102 19,.o (.bin 103 .eql (sl 102) (ci 0)),mv 104 103,.g 104 false (some 105) (.move 105 (sl 20)),.g 104 false (some 106) (.move 106 (sl 18)),.g 104 false (some 107) (.bin 107 .gtr (sl 105) (sl 106)),.o (.pick 108 (sl 104) (cb true) (sl 107))])
 ((.cond (sl 108) (.reg [mv 109 19,mv 110 20,mv 17 109,mv 18 110])
 .skip))))))
 ((.reg [mv 90 19,.o (.bin 91 .add (sl 90) (ci 1)),mv 19 91])))))))))
 ((.seq (.reg [fl 111 4 11,l1 112 111,.o (.lenS 113 (sl 112)),.o (.make 114 [.v (.int .i64 0)] 8 (sl 113) (sl 113)),mv 21 114])
 ((.seq (.reg [mv 115 21,mv 116 17,ix 117 115 116,.o (.store 1 (sl 117) (ci 60))])
 ((.seq (.weak (.draw [] [kr (mv 118 0),kr (.o (.nilc 119 (sl 118))),kr (fl 120 6 119),kr (l1 121 120),kr (mv 122 0),kr (.o (.nilc 123 (sl 122))),kr (fl 124 0 123),kr (ln 125 3 124),kr (mv 126 0),kr (.o (.nilc 127 (sl 126))),kr (fl 128 3 127),kr (l1 129 128),kr (mv 130 1),kr (mv 131 2),kr (.o (.call (some 132) (cf 96) [(sl 125), (sl 129), (sl 130), (sl 131)])),kr (mv 133 21),kr (ix 134 121 132),(kH, .o (.store 1 (sl 134) (sl 133)))]))
 ((.seq (.weak (.reg [mv 135 18,mv 10 135]))
 (.ret))))))))))))
 .skip)))))))))
 ((.seq (.reg [.o (.move 22 (ci 0))])
 ((.seq (.seq (.reg [.o (.move 23 (ci 0))])
 ((.block 5 (.loop (.seq (.seq (.reg [mv 136 23,fl 137 4 11,l1 138 137,.o (.lenS 139 (sl 138)),.o (.bin 140 .lss (sl 136) (sl 139))])
 ((.cond (sl 140) .skip
 (.exit 5))))
 ((.seq (.block 6 (.seq (.reg [.o (.bslice 143 1 0 []),mv 24 143])
 ((.seq (.seq (.reg [.o (.move 25 (ci 0))])
 ((.block 7 (.loop (.seq (.seq (.reg [mv 144 25,mv 145 3,.o (.lenS 146 (sl 145)),.o (.bin 147 .lss (sl 144) (sl 146))])
 ((.cond (sl 147) .skip
 (.exit 7))))
 ((.seq (.block 8 (.draw [178] [kr (mv 150 24),kr (mv 151 3),kr (mv 152 25),kr (ix 153 151 152),kr (l1 154 153),kr (mv 155 0),kr (.o (.nilc 156 (sl 155))),kr (fl 157 4 156),kr (fl 158 1 157),kr (l1 159 158),kr (mv 160 0),kr (.o (.nilc 161 (sl 160))),kr (fl 162 0 161),kr (ln 163 3 162),kr (mv 164 0),kr (.o (.nilc 165 (sl 164))),kr (fl 166 3 165),kr (l1 167 166),kr (.o (.bin 168 .sub (ci 1) (sl 167))),kr (mv 169 1),kr (mv 170 25),kr (.o (.call (some 171) (cf 96) [(sl 163), (sl 168), (sl 169), (sl 170)])),kr (ix 172 159 171),kr (l1 173 172),kr (mv 174 23),kr (ix 175 173 174),kr (l1 176 175),kr (.o (.bin 177 .mul (sl 154) (sl 176))),(kN, .o (.bslice 178 1 1 [(0, (sl 177))])),(kH, .o (.app 179 1 8 (sl 150) (sl 178))),kr (mv 24 179)]))
 ((.reg [mv 148 25,.o (.bin 149 .add (sl 148) (ci 1)),mv 25 149])))))))))
 ((.weak (.reg [mv 180 22,mv 181 0,fl 182 4 11,l1 183 182,mv 184 23,ix 185 183 184,l1 186 185,mv 187 2,mv 188 24,mv 189 4,.o (.bin 190 .sub (sl 189) (ci 1)),.o (.call (some 191) (cf 87) [(sl 181), (sl 186), (sl 187), (sl 188), (sl 190)]),.o (.bin 192 .add (sl 180) (sl 191)),mv 22 192])))))))
 ((.reg [mv 141 23,.o (.bin 142 .add (sl 141) (ci 1)),mv 23 142])))))))))
 ((.seq (.reg [mv 193 22,mv 10 193])
 (.ret))))))))))))
theorem q0c5 {rin args Q} (ha : args.length <= 194) (h : fW 194 q057 [.tmp 10] rin args Q) : Fun Tryz.prog 87 rin args Q :=
 Fun.of (H := ⟨[], [25, 35]⟩) Tryz.func87 rfl rfl rfl (by kernel_rfl) ha (by decide) h

def srch (g : Gm) (ot : List (List Int)) (pl : Int) (B : List (List Int)) : T := .box [nodes g.nd, rows g.w, rows g.v, .i pl, .i (1 - pl), rows ot, q0qa B]
def fstC (pl a b : Int) : Int := if pl = 0 then a else b
def q05g (reach : List Int) (p : Nat) : Prop := sumI reach * pw p <= 41990400000
def capV : Int := 4199040000000
theorem q0u3 : ∀ {l : List Int}, (∀ x ∈ l, 0 <= x) -> ∀ x ∈ l, x <= sumI l
 | [], _, x, h => by simp at h
 | y :: l, h0, x, h => by
   have h1 := q0u4 (l := l) fun z hz => h0 z (by simp [hz])
   have h2 := h0 y (by simp)
   rw [sumI]
   rcases List.mem_cons.1 h with rfl | h
   ·omega
   ·have := q0u3 (l := l) (fun z hz => h0 z (by simp [hz])) x h; omega
def payF (g : Gm) (pl : Int) (i own c : Nat) : Int := if pl = 0 then pay g i own c else pay g i c own
theorem q0o1 (g : Gm) (pl : Int) (i own c : Nat) : payP g pl i own c = if pl = 0 then payF g pl i own c else -payF g pl i own c := by
 unfold payP payF; split <;> rfl
theorem q0p7 {reach : List Int} (h0 : ∀ x ∈ reach, 0 <= x) (c : Nat) : 0 <= reach.getD c 0 /\ reach.getD c 0 <= sumI reach := by
 rw [List.getD_eq_getElem?_getD]
 cases h : reach[c]? with
 | none => exact ⟨by simp, by simpa using q0u4 h0⟩
 | some y => exact ⟨h0 y (List.mem_of_getElem? h), q0u3 h0 y (List.mem_of_getElem? h)⟩
theorem q0ul {reach : List Int} {p : Nat} (h0 : ∀ x ∈ reach, 0 <= x) (hc : q05g reach p) {c : Nat} {y : Int} (h1 : -100 <= y) (h2 : y <= 100) : (-capV <= reach.getD c 0 * y * pw p /\ reach.getD c 0 * y * pw p <= capV) /\ (-4199040000000 <= reach.getD c 0 * y /\ reach.getD c 0 * y <= 4199040000000) := by
 obtain ⟨r1, r2⟩ := q0p7 h0 c
 have hp := q0ok p
 obtain ⟨m1, m2⟩ := q0kl r1 h1 h2
 have k1 := Int.mul_le_mul_of_nonneg_right m1 (Int.le_of_lt hp)
 have k2 := Int.mul_le_mul_of_nonneg_right m2 (Int.le_of_lt hp)
 have k3 := Int.mul_le_mul_of_nonneg_right r2 (Int.le_of_lt hp)
 have k4 : reach.getD c 0 <= reach.getD c 0 * pw p := by
  have := Int.mul_le_mul_of_nonneg_left (show (1 : Int) <= pw p by omega) r1
  omega
 rw [Int.neg_mul, Int.mul_assoc 100] at k1
 rw [Int.mul_assoc 100] at k2
 unfold q05g at hc
 unfold capV
 refine ⟨⟨by omega, by omega⟩, by omega, by omega⟩
def cntA (vs : List Int) (k : Nat) : Int := if k = 0 then 0 else vs.getD (q01b.go k vs) 0
theorem q0db {vs : List Int} {k : Nat} {n : Int} (h : vs[k]? = some n) : q01b.go (k + 1) vs = (if k = 0 ∨ n > cntA vs k then k else q01b.go k vs) /\ cntA vs (k + 1) = (if k = 0 ∨ n > cntA vs k then n else cntA vs k) := by
 have hd : vs.getD k 0 = n := by rw [List.getD_eq_getElem?_getD, h]; rfl
 unfold cntA
 rw [q01f, hd]
 by_cases h0 : k = 0
 ·subst h0; simp [hd]; rw [List.getD_eq_getElem?_getD] at hd; exact hd
 ·rw [if_neg h0, if_neg h0, if_neg (by omega : ¬ k + 1 = 0)]
  by_cases h1 : vs.getD (q01b.go k vs) 0 < n
  ·rw [if_pos h1, if_pos (.inr h1), if_pos (.inr h1)]; exact ⟨rfl, hd⟩
  ·rw [if_neg h1, if_neg (by rintro (h | h); exact h0 h; exact h1 h), if_neg (by rintro (h | h); exact h0 h; exact h1 h)]; exact ⟨rfl, rfl⟩
theorem q09r {α β : Type} (F : β -> α -> β) (l : List α) (b : β) {k : Nat} {c : α} (h : l[k]? = some c) : (l.take (k + 1)).foldl F b = F ((l.take k).foldl F b) c := by
 rw [q0uj h, List.foldl_append]; rfl
def tS (g : Gm) (pl : Int) (i own : Nat) (reach : List Int) (p k : Nat) : Int := sumI ((List.range k).map fun c => reach.getD c 0 * payP g pl i own c) * pw p
theorem q0uh (g : Gm) (pl : Int) (i own : Nat) (reach : List Int) (p k : Nat) : tS g pl i own reach p (k + 1) = tS g pl i own reach p k + reach.getD k 0 * payP g pl i own k * pw p := by
 unfold tS
 rw [List.range_succ, List.map_append, List.map_cons, List.map_nil, q0u7, Int.add_mul]
theorem q0ug {g : Gm} {pl : Int} {i own : Nat} {reach : List Int} {p : Nat} (hp : q0nz g) (h0 : ∀ x ∈ reach, 0 <= x) (hc : q05g reach p) : ∀ k, -(k * capV) <= tS g pl i own reach p k /\ tS g pl i own reach p k <= k * capV
 | 0 => by simp [tS, sumI]
 | k + 1 => by
   have ih := q0ug (pl := pl) (i := i) (own := own) hp h0 hc k
   obtain ⟨h1, h2⟩ := q0o2 hp pl i own k
   have h3 := (q0ul h0 hc (c := k) h1 h2).1
   rw [q0uh]
   have e : ((k + 1 : Nat) : Int) * capV = k * capV + capV := by rw [Int.natCast_add, Int.add_mul]; simp
   omega
theorem q05i {g : Gm} {ot : List (List Int)} {pl : Int} (hot : q0nw g ot (1 - pl)) {i : Nat} {reach : List Int} (hi : i < g.nd.length) (hr : reach.length = g.w.length) (hp : (g.nd.getD i nd0).p = 1 - pl) (h0 : ∀ x ∈ reach, 0 <= x) {p : Nat} (hc : q05g reach (p + 1)) {k : Nat} (hk : k < (g.nd.getD i nd0).ch.length) : q05g (q0lc g ot pl i reach k) p := by
 have hs := q0lh hot hi hr hp
 have hle : sumI (q0lc g ot pl i reach k) <= 60 * sumI reach := by
  rw [← hs]
  refine q0u3 (fun x hx => ?_) _ (List.mem_map.2 ⟨k, List.mem_range.2 hk, rfl⟩)
  obtain ⟨k', _, rfl⟩ := List.mem_map.1 hx
  exact q0u4 (q0lg hot hi hr hp h0 k')
 have h1 := Int.mul_le_mul_of_nonneg_right hle (Int.le_of_lt (q0ok p))
 unfold q05g at hc ⊢
 rw [q0ol, ← Int.mul_assoc, Int.mul_comm (sumI reach) 60] at hc
 omega
theorem q0u5 {G : Nat -> Int} {c : Int} : ∀ {n : Nat}, (∀ k, k < n -> -c <= G k /\ G k <= c) -> -(n * c) <= sumI ((List.range n).map G) /\ sumI ((List.range n).map G) <= n * c
 | 0, _ => by simp [sumI]
 | n + 1, h => by
   have ih := q0u5 (n := n) fun k hk => h k (by omega)
   have h1 := h n (by omega)
   rw [List.range_succ, List.map_append, List.map_cons, List.map_nil, q0u7]
   have e : ((n + 1 : Nat) : Int) * c = n * c + c := by rw [Int.natCast_add, Int.add_mul]; simp
   omega
theorem q021 {g : Gm} {ot : List (List Int)} {pl : Int} {own : Nat} (hnd : q0l2 g.nd) (hpl : pl = 0 ∨ pl = 1) (hot : q0nw g ot (1 - pl)) {f i : Nat} {reach : List Int} {p : Nat} (hi : i < g.nd.length) (hr : reach.length = g.w.length) (h0 : ∀ x ∈ reach, 0 <= x) (hd : dep g.nd f i <= p) (hc : q05g reach p) : -capV <= q01z g ot pl own f i reach p /\ q01z g ot pl own f i reach p <= capV := by
 have h := q020 (own := own) hnd hpl hot (q0o0 hnd) f i reach p hi hr h0 hd
 rw [Int.mul_assoc] at h
 unfold q05g at hc
 unfold capV
 omega
def nilO (r : Nat) (K : A -> Prop) : Root -> Prop
 | .live (.box _) _ => K (.own r)
 | _ => False
theorem q0lr {r : Nat} {S : St} {K : A -> Prop} : q0lp (.own r) S K = nilO r K (S.roots r) := by
 show (match S.roots r with | .live (.box _) _ => K (.own r) | _ => False) = _
 cases S.roots r with
 | live t lk => cases t <;> rfl
 | _ => rfl
theorem q0lt {r off : Nat} {S : St} {K : A -> Prop} : q0lp (.ptr r off) S K = K (.ptr r off) := rfl
theorem q0ls {l : List T} {off : Nat} {S : St} {K : A -> Prop} : q0lp (.t (.pin l off)) S K = K (.t (.pin l off)) := rfl
attribute [go_sem] q0lr q0lt q0ls nilO
section
attribute [-go_sem] q0i5 q0id fldC lenC idxC q0ip q0lp
theorem q0sp (g : Gm) (ot B : List (List Int)) (pl a b : Int) : Fun Tryz.prog 86 [srch g ot pl B] [.own 1000000000, .t (.i a), .t (.i b)] fun o r => o = [srch g ot pl B] /\ r = .tup [.i (fstC pl a b), .i (fstC pl b a)] := by
 refine q0c3 (by simp) ?_
 simp -implicitDefEqProofs only [eR', go_sem, q055, srch]
 refine ⟨fun h => ?_, fun h => ?_⟩
 ·have h : pl = 0 := by simpa using h
  rw [fstC, fstC, if_pos h, if_pos h]
 ·have h : ¬ pl = 0 := by simpa using h
  rw [fstC, fstC, if_neg h, if_neg h]
theorem q0hb (g : Gm) (ot B : List (List Int)) (pl a b : Int) : Fun Tryz.prog 86 [.box [.sh 5 (chunk q0lu g.nd), .sh 1 (g.w.map ints), .sh 1 (g.v.map ints), .i pl, .i (1 - pl), .sh 1 (ot.map ints), q0qa B]] [.own 1000000000, .t (.i a), .t (.i b)] fun o r => o = [.box [.sh 5 (chunk q0lu g.nd), .sh 1 (g.w.map ints), .sh 1 (g.v.map ints), .i pl, .i (1 - pl), .sh 1 (ot.map ints), q0qa B]] /\ r = .tup [.i (fstC pl a b), .i (fstC pl b a)] := q0sp g ot B pl a b
theorem q0t1 {g : Gm} (hg : q0fl g = true) (pl : Int) {i own c : Nat} (hi : i < g.nd.length) (ha : own < g.w.length) (hb : c < g.w.length) : Pure Tryz.prog 95 [.agg [.sh 5 (chunk q0lu g.nd), .sh 1 (g.w.map ints), .sh 1 (g.v.map ints)], .i i, .i (fstC pl own c), .i (fstC pl c own)] (.i (payF g pl i own c)) := by
 unfold fstC payF
 by_cases h : pl = 0
 ·rw [if_pos h, if_pos h, if_pos h]; exact q0se g hg i own c hi ha hb
 ·rw [if_neg h, if_neg h, if_neg h]; exact q0se g hg i c own hi hb ha
theorem q0ha {g : Gm} (hg : q0fl g = true) {pl : Int} {i c : Nat} (hi : i < g.nd.length) (hp : (g.nd.getD i nd0).p = pl) (hc : c < g.w.length) : Pure Tryz.prog 96 [.agg [.sh 5 (chunk q0lu g.nd), .sh 1 (g.w.map ints), .sh 1 (g.v.map ints)], .i pl, .i i, .i c] (.i (setI g pl i c)) := q0sm g hg pl i c hi hp hc
theorem q0sr {g : Gm} {ot : List (List Int)} {pl : Int} {own : Nat} (hg : q0fl g = true) (hpl : pl = 0 ∨ pl = 1) (hot : q0nw g ot (1 - pl)) (hown : own < g.w.length) : ∀ (f i : Nat) (reach : List Int) (p : Nat) (B : List (List Int)), g.nd.length <= i + f -> i < g.nd.length -> reach.length = g.w.length -> (∀ x ∈ reach, 0 <= x) -> dep g.nd f i <= p -> p <= 5 -> q05g reach p -> q0q7 (sets g pl).length B →
  Fun Tryz.prog 87 [srch g ot pl B] [.own 1000000000, .t (.i i), .t (.i own), .t (ints reach), .t (.i p)] fun o r => o = [srch g ot pl (q01u g ot pl own f i reach p B)] /\ r = .i (q01z g ot pl own f i reach p) := by
 obtain ⟨p1, p2, p3, p4, p5⟩ := q0fn hg
 obtain ⟨t1, t2, t3, t4⟩ := q0g0 p1
 have hpay := q0o0 t2
 intro f
 induction f with
 | zero => intro i reach p B h1 h2; omega
 | succ f ih =>
   intro i reach p B hf hi hrl hr0 hdp hp5 hcap hBl
   obtain ⟨x, hx⟩ : ∃ x, g.nd[i]? = some x := ⟨_, List.getElem?_eq_getElem hi⟩
   have hxd : g.nd.getD i nd0 = x := by rw [List.getD_eq_getElem?_getD, hx]; rfl
   have hxl := (q0ks (t2 _ _ hx)).2.2.2.2.2
   have hB2 : x.p = 2 -> q01u g ot pl own (f + 1) i reach p B = B := fun h => by rw [q01u]; simp only [hxd]; rw [if_pos h]
   have hV2 : x.p = 2 -> q01z g ot pl own (f + 1) i reach p = tS g pl i own reach p reach.length := fun h => by rw [q01z]; simp only [hxd]; rw [if_pos h]; rfl
   have hB1 : x.p ≠ 2 -> x.p = pl -> q01u g ot pl own (f + 1) i reach p B = (x.ch.foldl (fun B c => q01u g ot pl own f c.toNat reach p B) B).set (setI g pl i own) ((List.replicate x.ch.length 0).set (q01b (x.ch.map fun c => q01z g ot pl own f c.toNat reach p)) 60) := fun h h' => by rw [q01u]; simp only [hxd]; rw [if_neg h, if_pos h']
   have hV1 : x.p ≠ 2 -> x.p = pl -> q01z g ot pl own (f + 1) i reach p = (x.ch.map fun c => q01z g ot pl own f c.toNat reach p).getD (q01b (x.ch.map fun c => q01z g ot pl own f c.toNat reach p)) 0 := fun h h' => by rw [q01z]; simp only [hxd]; rw [if_neg h, if_pos h']
   have hB0 : x.p ≠ 2 -> x.p ≠ pl -> q01u g ot pl own (f + 1) i reach p B = (List.range x.ch.length).foldl (fun B k => q01u g ot pl own f (x.ch.getD k 0).toNat (q0lc g ot pl i reach k) (p - 1) B) B := fun h h' => by rw [q01u]; simp only [hxd]; rw [if_neg h, if_neg h']
   have hV0 : x.p ≠ 2 -> x.p ≠ pl -> q01z g ot pl own (f + 1) i reach p = sumI ((List.range x.ch.length).map fun k => q01z g ot pl own f (x.ch.getD k 0).toNat (q0lc g ot pl i reach k) (p - 1)) := fun h h' => by rw [q01z]; simp only [hxd]; rw [if_neg h, if_neg h']
   generalize q01u g ot pl own (f + 1) i reach p B = B' at hB2 hB1 hB0 ⊢
   generalize q01z g ot pl own (f + 1) i reach p = V' at hV2 hV1 hV0 ⊢
   refine q0c5 (by simp) ?_
   simp -implicitDefEqProofs only [eR', go_sem, q057, srch, nodes, q0kw hx]
   refine ⟨by omega, by rw [q0l0]; omega, by rw [q0l0]; omega, fun h2 => ?_, fun h2 => ?_⟩
   ·have h2 : x.p = 2 := by simpa using h2
    rw [hB2 h2, hV2 h2]
    refine SemC.loopR (σ := Nat) (fun k => St.of [(0, .own 1000000000), (1, .t (.i i)), (2, .t (.i own)), (3, .t (ints reach)), (4, .t (.i p)), (12, .t (.i (tS g pl i own reach p k))), (13, .t (.i k))] [(1000000000, srch g ot pl B)]) (fun k => k <= reach.length) (fun k => reach.length - k) 0 (Weak.o _ _ [some 1000000000] ?_ ?_) (by omega) fun k hk R hn hr he => ?_
    ·simp -implicitDefEqProofs only [wR', Nat.reduceBEq, Nat.reduceEqDiff, ↓reduceIte, show tS g pl i own reach p 0 = 0 by simp [tS, sumI]]
    ·exact ⟨⟨_, rfl, .refl _⟩, rfl, trivial⟩
    ·rcases Nat.lt_or_ge k reach.length with h9 | h9
     ·simp -implicitDefEqProofs only [eR', go_sem, srch, nodes, decide_eq_true (show (k : Int) < (reach.length : Int) by omega)]
      refine q006.ref (q0hb g ot B pl own k) [1000000000] [] rfl Tryz.call86 (by simp) ?_ (by simp) ?_ (.inl rfl) ?_
      ·simp -implicitDefEqProofs only [sR', Nat.reduceEqDiff, ↓reduceIte]
      ·simp -implicitDefEqProofs only [aR', go_sem]
      simp -implicitDefEqProofs only [cR', go_sem]
      obtain ⟨y, hy⟩ : ∃ y, reach[k]? = some y := ⟨_, List.getElem?_eq_getElem h9⟩
      have hyd : reach.getD k 0 = y := by rw [List.getD_eq_getElem?_getD, hy]; rfl
      obtain ⟨q1, q2⟩ := q0o2 hpay pl i own k
      obtain ⟨⟨m1, m2⟩, m3, m4⟩ := q0ul hr0 hcap (c := k) q1 q2
      have m5 := q0ug (pl := pl) (i := i) (own := own) hpay hr0 hcap k
      have m6 := q0uh g pl i own reach p k
      have m7 : (k : Int) * capV <= 6 * capV := Int.mul_le_mul_of_nonneg_right (by omega) (by decide)
      have hcv : capV = 4199040000000 := rfl
      have hPF := q0o1 g pl i own k
      rw [hyd] at m1 m2 m3 m4 m6
      generalize hP : payP g pl i own k = P at q1 q2 m1 m2 m3 m4 m6 hPF
      refine q006.p (q0t1 (c := k) hg pl hi hown (by omega)) [] rfl Tryz.call95 ?_ ?_
      ·simp -implicitDefEqProofs only [aR', go_sem]
      simp -implicitDefEqProofs only [eR', go_sem, hy]
      have hw0 : pl = 1 -> IntKind.i64.wrap (0 - payF g pl i own k) = P := fun h => by
       rw [if_neg (by omega)] at hPF
       rw [wrap64 (n := 0 - payF g pl i own k) (by omega) (by omega)]; omega
      have hw1 : pl ≠ 1 -> payF g pl i own k = P := fun h => by
       rw [if_pos (by omega)] at hPF; exact hPF.symm
      refine ⟨fun h5 => ⟨by omega, by omega, by omega, ?_⟩, fun h5 => ⟨by omega, by omega, by omega, ?_⟩⟩
      ·rw [hw0 (by simpa using h5)]
       refine q004.pure (q0sl p (by omega)) [] rfl Tryz.call62 (fun e R' hR => ?_) (by first | trivial | simp [T.noSh, T.noShL, rat]) (fun _ => rfl) ?_
       ·simp -implicitDefEqProofs only [aR', go_sem]
       simp -implicitDefEqProofs only [eR', go_sem]
       refine hn _ (k + 1) (Weak.o _ _ [some 1000000000] ?_ ?_) (by omega) (by omega)
       ·simp -implicitDefEqProofs only [wR', Nat.reduceBEq, Nat.reduceEqDiff, ↓reduceIte, srch, nodes, q0lb h9 (by omega), wrap64 (n := y * P) (by omega) (by omega), wrap64 (n := y * P * pw p) (by omega) (by omega), ← m6, wrap64 (n := tS g pl i own reach p (k + 1)) (by omega) (by omega)]
       ·exact ⟨⟨_, rfl, .refl _⟩, rfl, trivial⟩
      ·rw [hw1 (by simpa using h5)]
       refine q004.pure (q0sl p (by omega)) [] rfl Tryz.call62 (fun e R' hR => ?_) (by first | trivial | simp [T.noSh, T.noShL, rat]) (fun _ => rfl) ?_
       ·simp -implicitDefEqProofs only [aR', go_sem]
       simp -implicitDefEqProofs only [eR', go_sem]
       refine hn _ (k + 1) (Weak.o _ _ [some 1000000000] ?_ ?_) (by omega) (by omega)
       ·simp -implicitDefEqProofs only [wR', Nat.reduceBEq, Nat.reduceEqDiff, ↓reduceIte, srch, nodes, q0lb h9 (by omega), wrap64 (n := y * P) (by omega) (by omega), wrap64 (n := y * P * pw p) (by omega) (by omega), ← m6, wrap64 (n := tS g pl i own reach p (k + 1)) (by omega) (by omega)]
       ·exact ⟨⟨_, rfl, .refl _⟩, rfl, trivial⟩
     ·simp -implicitDefEqProofs only [eR', go_sem, srch, nodes, decide_eq_false (show ¬ (k : Int) < (reach.length : Int) by omega)]
      refine he _ _ ?_
      simp -implicitDefEqProofs only [eR', go_sem]
      rw [show k = reach.length by omega]
   have h2 : x.p ≠ 2 := by simpa using h2
   have hp2 : (g.nd.getD i nd0).p ≠ 2 := by rw [hxd]; exact h2
   obtain ⟨d1, d2⟩ := q07w (f := f) hp2
   rw [hxd] at d2
   have hch := q0kp (t2 _ _ hx)
   refine ⟨fun h3 => ?_, fun h3 => ?_⟩
   ·have h3 : x.p = pl := by simpa using h3
    generalize hF : (fun (B : List (List Int)) (c : Int) => q01u g ot pl own f c.toNat reach p B) = F at hB1
    generalize hvs : (x.ch.map fun c => q01z g ot pl own f c.toNat reach p) = vs at hB1 hV1
    have hvl : vs.length = x.ch.length := by rw [← hvs, List.length_map]
    rw [hB1 h2 h3, hV1 h2 h3]
    refine SemC.loopR (σ := Nat) (fun k => St.of [(0, .own 1000000000), (1, .t (.i i)), (2, .t (.i own)), (3, .t (ints reach)), (4, .t (.i p)), (11, .own 11), (17, .t (.i (q01b.go k vs))), (18, .t (.i (cntA vs k))), (19, .t (.i k))] [(11, .box [.i x.p, .i x.a, .i x.b, .i x.f, ints x.ch]), (1000000000, srch g ot pl ((x.ch.take k).foldl F B))]) (fun k => k <= x.ch.length) (fun k => x.ch.length - k) 0 (Weak.o _ _ [some 11, some 1000000000] ?_ ?_) (by omega) fun k hk R hn hr he => ?_
    ·simp -implicitDefEqProofs only [wR', Nat.reduceBEq, Nat.reduceEqDiff, ↓reduceIte, show cntA vs 0 = 0 from rfl, show q01b.go 0 vs = 0 from rfl]
    ·exact ⟨⟨_, rfl, .refl _⟩, rfl, ⟨_, rfl, .refl _⟩, rfl, trivial⟩
    ·rcases Nat.lt_or_ge k x.ch.length with h9 | h9
     ·obtain ⟨c, hc⟩ : ∃ c, x.ch[k]? = some c := ⟨_, List.getElem?_eq_getElem h9⟩
      have hcm := List.mem_of_getElem? hc
      have hcb := hch c hcm
      have hcd := d2 c hcm
      have hrow : q0q7 (sets g pl).length ((x.ch.take k).foldl F B) := by
       refine q09n (q0q7 (sets g pl).length) _ _ hBl fun B' c' _ hB' => ?_
       rw [← hF]; exact q01v t2 f _ _ _ _ hB'
      have hcall := ih c.toNat reach p ((x.ch.take k).foldl F B) (by omega) (by omega) hrl hr0 (by omega) hp5 hcap hrow
      rw [show ((c.toNat : Nat) : Int) = c by omega, show q01u g ot pl own f c.toNat reach p ((x.ch.take k).foldl F B) = (x.ch.take (k + 1)).foldl F B by rw [q09r F x.ch B hc, ← hF]] at hcall
      have hvk : vs[k]? = some (q01z g ot pl own f c.toNat reach p) := by rw [← hvs, List.getElem?_map, hc]; rfl
      obtain ⟨g1, g2⟩ := q0db hvk
      generalize q01z g ot pl own f c.toNat reach p = n at hcall hvk g1 g2
      simp only [srch, nodes, rows, ints] at hcall
      simp -implicitDefEqProofs only [eR', go_sem, srch, nodes, hc, decide_eq_true (show (k : Int) < (x.ch.length : Int) by omega)]
      refine ⟨by omega, by omega, by omega, ?_⟩
      refine q006.ref hcall [1000000000] [] rfl Tryz.call87 (by simp) ?_ (by simp) ?_ (.inl rfl) ?_
      ·simp -implicitDefEqProofs only [sR', Nat.reduceEqDiff, ↓reduceIte]
      ·simp -implicitDefEqProofs only [aR', go_sem]
      simp -implicitDefEqProofs only [cR', go_sem]
      refine ⟨fun h0 => ⟨fun h1 => ?_, fun h1 => ?_⟩, fun h0 => ?_⟩
      ·rw [if_pos (.inr h1)] at g1 g2
       refine hn _ (k + 1) (Weak.o _ _ [some 11, some 1000000000] ?_ ?_) (by omega) (by omega)
       ·simp -implicitDefEqProofs only [wR', Nat.reduceBEq, Nat.reduceEqDiff, ↓reduceIte, q0lb h9 (by omega), g1, g2]
       ·exact ⟨⟨_, rfl, .refl _⟩, rfl, ⟨_, rfl, .refl _⟩, rfl, trivial⟩
      ·rw [if_neg (by rintro (h | h); (· rw [h] at h0; simp at h0); (· exact h1 h))] at g1 g2
       refine hn _ (k + 1) (Weak.o _ _ [some 11, some 1000000000] ?_ ?_) (by omega) (by omega)
       ·simp -implicitDefEqProofs only [wR', Nat.reduceBEq, Nat.reduceEqDiff, ↓reduceIte, q0lb h9 (by omega), g1, g2]
       ·exact ⟨⟨_, rfl, .refl _⟩, rfl, ⟨_, rfl, .refl _⟩, rfl, trivial⟩
      ·rw [if_pos (.inl (by simpa using h0))] at g1 g2
       refine hn _ (k + 1) (Weak.o _ _ [some 11, some 1000000000] ?_ ?_) (by omega) (by omega)
       ·simp -implicitDefEqProofs only [wR', Nat.reduceBEq, Nat.reduceEqDiff, ↓reduceIte, q0lb h9 (by omega), g1, g2]
       ·exact ⟨⟨_, rfl, .refl _⟩, rfl, ⟨_, rfl, .refl _⟩, rfl, trivial⟩
     ·simp -implicitDefEqProofs only [eR', go_sem, srch, nodes, decide_eq_false (show ¬ (k : Int) < (x.ch.length : Int) by omega)]
      refine he _ _ ?_
      simp -implicitDefEqProofs only [eR', go_sem, srch, nodes]
      have hke : k = x.ch.length := by omega
      have hcl1 : 1 <= x.ch.length := ((q0ks (t2 _ _ hx)).2.2.2.2.1 h2).2
      have hgl := q01e vs k (by omega)
      have hge : q01b.go k vs = q01b vs := by rw [q01c, hvl, hke]
      rw [q0jc, List.length_replicate]
      refine ⟨by omega, by omega, by omega, by omega, by omega, ?_⟩
      rw [show x.ch.take k = x.ch by rw [hke, List.take_length]]
      refine ⟨_, Weak.open 1000000000 6 500 rfl rfl rfl (by decide) rfl, ?_⟩
      simp -implicitDefEqProofs only [eR', go_sem, List.lookup_cons, beq_self_eq_true, Nat.reduceBEq]
      have hset := q0ha (pl := pl) hg hi (by rw [hxd]; exact h3) hown
      have hrowA : q0q7 (sets g pl).length (x.ch.foldl F B) := by
       refine q09n (q0q7 (sets g pl).length) _ _ hBl fun B' c' _ hB' => ?_
       rw [← hF]; exact q01v t2 f _ _ _ _ hB'
      have hslt := q0qy (pl := pl) hi hown (by rw [hxd]; exact h3)
      have hrl1 := hrowA.1
      refine q004.pure hset [] rfl Tryz.call96 (fun e R' hR => ?_) (by first | trivial | simp [T.noSh, T.noShL, rat]) (fun _ => rfl) ?_
      ·simp -implicitDefEqProofs only [aR', go_sem]
      simp -implicitDefEqProofs only [eR', go_sem, q0qa]
      refine ⟨by omega, by omega, by omega, ?_⟩
      refine ⟨_, Weak.join2 Tryz.prog q0wk (sl 120) (sl 121) rfl rfl rfl rfl (by decide) (by simp), ?_⟩
      simp -implicitDefEqProofs only [eR', go_sem]
      refine ⟨?_, ?_⟩
      ·rw [List.map_set, intsO, List.map_set, List.map_replicate, hge]
      ·rw [cntA, if_neg (by omega), hge]
   ·have h3 : x.p ≠ pl := by simpa using h3
    have hpo : x.p = 1 - pl := by
     obtain ⟨⟨q1, q2⟩, _⟩ := q0ks (t2 _ _ hx)
     omega
    have hpd : (g.nd.getD i nd0).p = 1 - pl := by rw [hxd]; exact hpo
    generalize hF : (fun (B : List (List Int)) (k : Nat) => q01u g ot pl own f (x.ch.getD k 0).toNat (q0lc g ot pl i reach k) (p - 1) B) = F at hB0
    generalize hG : (fun k => q01z g ot pl own f (x.ch.getD k 0).toNat (q0lc g ot pl i reach k) (p - 1)) = G at hV0
    rw [hB0 h2 h3, hV0 h2 h3]
    refine SemC.loopR (σ := Nat) (fun k => St.of [(0, .own 1000000000), (1, .t (.i i)), (2, .t (.i own)), (3, .t (ints reach)), (4, .t (.i p)), (11, .own 11), (22, .t (.i (sumI ((List.range k).map G)))), (23, .t (.i k))] [(11, .box [.i x.p, .i x.a, .i x.b, .i x.f, ints x.ch]), (1000000000, srch g ot pl ((List.range k).foldl F B))]) (fun k => k <= x.ch.length) (fun k => x.ch.length - k) 0 (Weak.o _ _ [some 11, some 1000000000] ?_ ?_) (by omega) fun k hk R hn hr he => ?_
    ·simp -implicitDefEqProofs only [wR', Nat.reduceBEq, Nat.reduceEqDiff, ↓reduceIte, List.range_zero, List.map_nil, show sumI [] = 0 from rfl]
    ·exact ⟨⟨_, rfl, .refl _⟩, rfl, ⟨_, rfl, .refl _⟩, rfl, trivial⟩
    ·rcases Nat.lt_or_ge k x.ch.length with h9 | h9
     ·obtain ⟨c, hc⟩ : ∃ c, x.ch[k]? = some c := ⟨_, List.getElem?_eq_getElem h9⟩
      simp -implicitDefEqProofs only [eR', go_sem, srch, nodes, hc, decide_eq_true (show (k : Int) < (x.ch.length : Int) by omega)]
      have hnl : (q0lc g ot pl i reach k).length = reach.length := q0lf _ _ _ _ _ _
      refine SemC.loopR (σ := Nat) (fun b => St.of [(0, .own 1000000000), (1, .t (.i i)), (2, .t (.i own)), (3, .t (ints reach)), (4, .t (.i p)), (11, .own 11), (22, .t (.i (sumI ((List.range k).map G)))), (23, .t (.i k)), (24, .own 77), (25, .t (.i b))] [(11, .box [.i x.p, .i x.a, .i x.b, .i x.f, ints x.ch]), (77, .arr 1 (((q0lc g ot pl i reach k).take b).map T.i)), (1000000000, srch g ot pl ((List.range k).foldl F B))]) (fun b => b <= reach.length) (fun b => reach.length - b) 0 (Weak.o _ _ [some 11, some 143, some 1000000000] ?_ ?_) (by omega) fun b hb R2 hn2 hr2 he2 => ?_
      ·simp -implicitDefEqProofs only [wR', Nat.reduceBEq, Nat.reduceEqDiff, ↓reduceIte, List.take_zero, srch, nodes]
      ·exact ⟨⟨_, rfl, .refl _⟩, rfl, ⟨_, rfl, .refl _⟩, rfl, ⟨_, rfl, .refl _⟩, rfl, trivial⟩
      ·rcases Nat.lt_or_ge b reach.length with h8 | h8
       ·obtain ⟨y, hy⟩ : ∃ y, reach[b]? = some y := ⟨_, List.getElem?_eq_getElem h8⟩
        simp -implicitDefEqProofs only [eR', go_sem, srch, nodes, hy, decide_eq_true (show (b : Int) < (reach.length : Int) by omega)]
        obtain ⟨o1, o2, o3⟩ := hot i b hi (by omega) hpd
        obtain ⟨r, hr1⟩ : ∃ r, ot[setI g (1 - pl) i b]? = some r := by
         cases h : ot[setI g (1 - pl) i b]? with
         | some r => exact ⟨r, rfl⟩
         | none =>
           rw [partsOf, List.getD_eq_getElem?_getD, h, hxd] at o1
           simp at o1
           omega
        have hrp : partsOf g ot (1 - pl) i b = r := by rw [partsOf, List.getD_eq_getElem?_getD, hr1]; rfl
        rw [hrp] at o1 o2
        rw [hxd] at o1
        obtain ⟨y2, hy2⟩ : ∃ y2, r[k]? = some y2 := ⟨_, List.getElem?_eq_getElem (by omega)⟩
        have hy2b := o2 y2 (List.mem_of_getElem? hy2)
        refine ⟨by omega, by omega, by omega, ?_⟩
        rw [wrap64 (n := 1 - pl) (by omega) (by omega)]
        refine q004.pure (q0ha (pl := 1 - pl) (c := b) hg hi hpd (by omega)) [] rfl Tryz.call96 (fun e R' hR => ?_) (by first | trivial | simp [T.noSh, T.noShL, rat]) (fun _ => rfl) ?_
        ·simp -implicitDefEqProofs only [aR', go_sem]
        simp -implicitDefEqProofs only [eR', go_sem, hr1, hy2]
        have hslt := (List.getElem?_eq_some_iff.1 hr1).1
        have hyb : 0 <= y /\ y <= 41990400000 := by
         have h1 := q0p7 hr0 b
         rw [List.getD_eq_getElem?_getD, hy] at h1
         have h2 := q0ok p
         have h3 := q0u4 hr0
         have h4 := Int.mul_le_mul_of_nonneg_left (show (1 : Int) <= pw p by omega) h3
         unfold q05g at hcap
         simp only [Option.getD_some] at h1
         omega
        have hm1 := Int.mul_nonneg hyb.1 hy2b.1
        have hm2 : y * y2 <= 41990400000 * 60 := Int.mul_le_mul hyb.2 hy2b.2 hy2b.1 (by decide)
        have hnx : (q0lc g ot pl i reach k)[b]? = some (y * y2) := by
         rw [q0lc, List.getElem?_map, List.getElem?_range (by omega), Option.map_some, hrp, List.getD_eq_getElem?_getD, hy, List.getD_eq_getElem?_getD, hy2]; rfl
        refine ⟨by omega, by omega, by omega, by omega, by omega, by omega, by rw [List.length_take]; omega, hn2 _ (b + 1) (Weak.o _ _ [some 11, some 179, some 1000000000] ?_ ?_) (by omega) (by omega)⟩
        ·simp -implicitDefEqProofs only [wR', Nat.reduceBEq, Nat.reduceEqDiff, ↓reduceIte, srch, nodes, q0lb h8 (by omega)]
        ·refine ⟨⟨_, rfl, .refl _⟩, rfl, ⟨_, rfl, ?_⟩, rfl, ⟨_, rfl, .refl _⟩, rfl, trivial⟩
         rw [q0uj hnx, List.map_append, wrap64 (n := y * y2) (by omega) (by omega)]; exact .refl _
       ·simp -implicitDefEqProofs only [eR', go_sem, srch, nodes, hc, decide_eq_false (show ¬ (b : Int) < (reach.length : Int) by omega)]
        refine he2 _ _ ?_
        simp -implicitDefEqProofs only [eR', go_sem, srch, nodes, hc]
        have hbl : b = reach.length := by omega
        have htk : (q0lc g ot pl i reach k).take b = q0lc g ot pl i reach k := List.take_of_length_le (by omega)
        rw [htk]
        refine ⟨_, Weak.trans (Weak.share 77 rfl) (Weak.o [(0, .own 1000000000), (1, .t (.i i)), (2, .t (.i own)), (3, .t (ints reach)), (4, .t (.i p)), (11, .own 11), (22, .t (.i (sumI ((List.range k).map G)))), (23, .t (.i k)), (24, .t (ints (q0lc g ot pl i reach k)))] [(11, .box [.i x.p, .i x.a, .i x.b, .i x.f, ints x.ch]), (1000000000, srch g ot pl ((List.range k).foldl F B))] [some 11, some 1000000000] ?_ ?_), ?_⟩
        ·simp -implicitDefEqProofs only [wR', Nat.reduceBEq, Nat.reduceEqDiff, ↓reduceIte, q0rg, srch, nodes, T.toSh, T.toShL_eq_map, List.map_map]
         exact .inr (.inl rfl)
        ·exact ⟨⟨_, rfl, .refl _⟩, rfl, ⟨_, rfl, .refl _⟩, rfl, trivial⟩
        ·simp -implicitDefEqProofs only [eR', go_sem, srch, nodes, hc]
         refine ⟨by omega, by omega, by omega, ?_⟩
         have hp1 : 1 <= p := by omega
         obtain ⟨p', rfl⟩ : ∃ p', p = p' + 1 := ⟨p - 1, by omega⟩
         have hcm := List.mem_of_getElem? hc
         have hcb := hch c hcm
         have hcd := d2 c hcm
         have hcd0 : x.ch.getD k 0 = c := by rw [List.getD_eq_getElem?_getD, hc]; rfl
         have hch1 : ∀ j, j < x.ch.length -> -capV <= G j /\ G j <= capV := fun j hj => by
          have hmj := q0cq (0 : Int) hj
          have hjb := hch _ hmj
          have hjd := d2 _ hmj
          rw [← hG]
          exact q021 t2 hpl hot (by omega) (by rw [q0lf]; exact hrl) (q0lg hot hi hrl hpd hr0 j) (by omega) (q05i hot hi hrl hpd hr0 hcap (by rw [hxd]; exact hj))
         have hs1 := q0u5 (G := G) (c := capV) (n := k) fun j hj => hch1 j (by omega)
         have hs2 := hch1 k h9
         have hcv : capV = 4199040000000 := rfl
         have hk4 : (k : Int) * capV <= 4 * capV := Int.mul_le_mul_of_nonneg_right (by omega) (by decide)
         have hrow : q0q7 (sets g pl).length ((List.range k).foldl F B) := by
          refine q09n (q0q7 (sets g pl).length) _ _ hBl fun B' c' _ hB' => ?_
          rw [← hF]; exact q01v t2 f _ _ _ _ hB'
         have hcall := ih c.toNat (q0lc g ot pl i reach k) p' ((List.range k).foldl F B) (by omega) (by omega) (by omega) (q0lg hot hi hrl hpd hr0 k) (by omega) (by omega) (q05i hot hi hrl hpd hr0 hcap (by rw [hxd]; omega)) hrow
         rw [show ((c.toNat : Nat) : Int) = c by omega, show q01u g ot pl own f c.toNat (q0lc g ot pl i reach k) p' ((List.range k).foldl F B) = (List.range (k + 1)).foldl F B by rw [List.range_succ, List.foldl_append, ← hF, List.foldl_cons, List.foldl_nil]; simp only [hcd0, Nat.add_sub_cancel], show q01z g ot pl own f c.toNat (q0lc g ot pl i reach k) p' = G k by rw [← hG]; simp only [hcd0, Nat.add_sub_cancel]] at hcall
         have hsg : sumI ((List.range (k + 1)).map G) = sumI ((List.range k).map G) + G k := by rw [List.range_succ, List.map_append, List.map_cons, List.map_nil, q0u7]
         simp only [srch, nodes, rows, ints] at hcall
         rw [wrap64 (n := ((p' + 1 : Nat) : Int) - 1) (by omega) (by omega), show ((p' + 1 : Nat) : Int) - 1 = (p' : Int) by omega]
         refine q006.ref hcall [1000000000] [] rfl Tryz.call87 (by simp) ?_ (by simp) ?_ (.inl rfl) ?_
         ·simp -implicitDefEqProofs only [sR', Nat.reduceEqDiff, ↓reduceIte]
         ·simp -implicitDefEqProofs only [aR', go_sem]
         simp -implicitDefEqProofs only [cR', go_sem]
         refine hn _ (k + 1) (Weak.o _ _ [some 11, some 1000000000] ?_ ?_) (by omega) (by omega)
         ·simp -implicitDefEqProofs only [wR', Nat.reduceBEq, Nat.reduceEqDiff, ↓reduceIte, srch, nodes, q0lb h9 (by omega), hsg, wrap64 (n := sumI ((List.range k).map G) + G k) (by omega) (by omega)]
         ·refine ⟨⟨_, rfl, .refl _⟩, rfl, ⟨_, rfl, ?_⟩, rfl, trivial⟩
          rw [List.range_succ]; exact .refl _
     ·simp -implicitDefEqProofs only [eR', go_sem, srch, nodes, decide_eq_false (show ¬ (k : Int) < (x.ch.length : Int) by omega)]
      refine he _ _ ?_
      simp -implicitDefEqProofs only [eR', go_sem]
      rw [show k = x.ch.length by omega]
      exact ⟨rfl, rfl⟩
end
end Go.Ab

/- Games as data: no strategy does better than the best; bounds of the number of a game. -/
namespace Go.Ab

theorem q0z1 (g : Gm) : ((dpt g : Nat) : Int) = dep g.nd g.nd.length 0 := by
 have := (q07x (l := g.nd) g.nd.length 0).1
 unfold dpt; omega
end Go.Ab

/- Games as data: the parts of a tree below its nodes; what a best response writes. -/
namespace Go.Ab

def q107 (l : List Nd) (i j : Nat) : Prop := i < l.length /\ (l.getD i nd0).p ≠ 2 /\ (j : Int) ∈ (l.getD i nd0).ch
inductive Rch (l : List Nd) : Nat -> Nat -> Prop
 | refl (i : Nat) : Rch l i i
 | step {i j k : Nat} : Rch l i j -> q107 l j k -> Rch l i k
end Go.Ab

/- Games as data: a best response is a strategy and attains the best value. -/
namespace Go.Ab

theorem q104 {l : List Nd} {pl : Int} : ∀ (n q : Nat) (x : Int), (idxs l pl n)[q]? = some x -> ∃ i : Nat, x = i /\ i < n /\ (l.getD i nd0).p = pl /\ (idxs l pl i).length = q
 | 0, q, x, h => by simp [idxs] at h
 | n + 1, q, x, h => by
   rw [q0ec] at h
   split at h
   ·rename_i hp
    rcases Nat.lt_trichotomy q (idxs l pl n).length with h1 | h1 | h1
    ·rw [List.getElem?_append_left h1] at h
     obtain ⟨i, e, hi, h2⟩ := q104 n q x h
     exact ⟨i, e, by omega, h2⟩
    ·rw [List.getElem?_append_right (by omega), h1, Nat.sub_self] at h
     simp at h
     exact ⟨n, h.symm, by omega, hp, h1.symm⟩
    ·rw [List.getElem?_eq_none (by simp; omega)] at h; cases h
   ·obtain ⟨i, e, hi, h2⟩ := q104 n q x h
    exact ⟨i, e, by omega, h2⟩
theorem q11o {ns : List Int} {k : Nat} : ∀ {e : Nat}, e < (q0r3 ns k).length -> ∃ q c x, c < k /\ ns[q]? = some x /\ e = q * k + c /\ (q0r3 ns k)[e]? = some [x, (c : Int)] := by
 induction ns with
 | nil => intro e h; simp [q0r3] at h
 | cons n ns ih =>
   intro e h
   have e0 : q0r3 (n :: ns) k = ((List.range k).map fun c : Nat => [n, (c : Int)]) ++ q0r3 ns k := rfl
   rw [e0, List.length_append, List.length_map, List.length_range] at h
   by_cases he : e < k
   ·refine ⟨0, e, n, he, rfl, by omega, ?_⟩
    rw [e0, List.getElem?_append_left (by simpa using he), List.getElem?_map, List.getElem?_range he]; rfl
   ·obtain ⟨q, c, x, h1, h2, h3, h4⟩ := ih (e := e - k) (by omega)
    refine ⟨q + 1, c, x, h1, h2, by rw [Nat.add_mul]; omega, ?_⟩
    rw [e0, List.getElem?_append_right (by simpa using he), List.length_map, List.length_range]; exact h4
theorem q11p {g : Gm} {pl : Int} {e : Nat} (h : e < (sets g pl).length) : ∃ i c, i < g.nd.length /\ c < g.w.length /\ (g.nd.getD i nd0).p = pl /\ e = setI g pl i c /\ q0rh g pl e = (g.nd.getD i nd0).ch.length := by
 obtain ⟨q, c, x, h1, h2, h3, h4⟩ := q11o h
 obtain ⟨i, rfl, hi, hp, hq⟩ := q104 _ _ _ h2
 refine ⟨i, c, hi, h1, hp, by rw [setI, hq]; exact h3, ?_⟩
 have e0 : (sets g pl).getD e [] = [(i : Int), (c : Int)] := by rw [List.getD_eq_getElem?_getD]; rw [show (sets g pl)[e]? = some [(i : Int), (c : Int)] from h4]; rfl
 rw [q0rh, e0]; rfl
end Go.Ab

/- Games as data: where a player's nodes have their sets; the reach as it is made. -/
namespace Go.Ab

def q0z5 (ns : List Int) (k n : Nat) : Nat -> List Int
 | 0 => List.replicate n 0
 | j + 1 => (q0z5 ns k n j).set (ns.getD j 0).toNat ((j * k : Nat) : Int)
theorem q0z7 (ns : List Int) (k n : Nat) : ∀ j, (q0z5 ns k n j).length = n
 | 0 => by simp [q0z5]
 | j + 1 => by rw [q0z5, List.length_set, q0z7 ns k n j]
def ownL (g : Gm) (pl : Int) : List Int := q0z5 (idxs g.nd pl g.nd.length) g.w.length g.nd.length (idxs g.nd pl g.nd.length).length
theorem q10z (g : Gm) (pl : Int) : (ownL g pl).length = g.nd.length := q0z7 _ _ _ _
theorem q105 (l : List Nd) (pl : Int) (n : Nat) : (idxs l pl n).Nodup := by
 unfold idxs
 have h : ((List.range n).filter fun i => decide ((l.getD i nd0).p = pl)).Nodup := List.nodup_range.sublist List.filter_sublist
 refine List.Pairwise.map _ (fun a b hab => ?_) h
 intro he
 exact hab (by have he : (a : Int) = b := he; omega)
theorem q0z6 {ns : List Int} {k n i q0 : Nat} (hn : ns.Nodup) (h0 : ∀ x ∈ ns, 0 <= x) (hq : ns[q0]? = some (i : Int)) (hi : i < n) : ∀ j, j <= ns.length -> (q0z5 ns k n j)[i]? = some (if q0 < j then ((q0 * k : Nat) : Int) else 0)
 | 0, _ => by
   rw [q0z5, List.getElem?_replicate, if_pos hi, if_neg (by omega)]
 | j + 1, hj => by
   have ih := q0z6 (k := k) hn h0 hq hi j (by omega)
   obtain ⟨hq1, hq2⟩ := List.getElem?_eq_some_iff.1 hq
   have hjd : ns.getD j 0 = ns[j]'(by omega) := by rw [List.getD_eq_getElem?_getD, List.getElem?_eq_getElem (by omega : j < ns.length)]; rfl
   have hj0 := h0 (ns[j]'(by omega)) (List.getElem_mem _)
   rw [q0z5, hjd, List.getElem?_set, q0z7]
   by_cases he : j = q0
   ·subst he
    rw [hq2]
    simp only [Int.toNat_natCast, if_true]
    rw [if_pos hi, if_pos (by omega)]
   ·have hne : ns[j]'(by omega) ≠ (i : Int) := fun h => by
     rcases Nat.lt_or_gt_of_ne he with h1 | h1
     ·exact (List.pairwise_iff_getElem.1 hn j q0 (by omega) hq1 h1) (h.trans hq2.symm)
     ·exact (List.pairwise_iff_getElem.1 hn q0 j hq1 (by omega) h1) (hq2.trans h.symm)
    rw [if_neg (by omega), ih]
    by_cases h2 : q0 < j
    ·rw [if_pos h2, if_pos (by omega)]
    ·rw [if_neg h2, if_neg (by omega)]
theorem q10y {g : Gm} {pl : Int} {i : Nat} (hi : i < g.nd.length) (hp : (g.nd.getD i nd0).p = pl) : (ownL g pl)[i]? = some (((idxs g.nd pl i).length * g.w.length : Nat) : Int) := by
 obtain ⟨rest, e⟩ := q0eb g.nd pl hp g.nd.length hi
 have hq : (idxs g.nd pl g.nd.length)[(idxs g.nd pl i).length]? = some (i : Int) := by
  rw [e, List.getElem?_append_right (Nat.le_refl _), Nat.sub_self]; rfl
 have h0 : ∀ x ∈ idxs g.nd pl g.nd.length, 0 <= x := fun x hx => by
  obtain ⟨j, rfl, _⟩ := q0ea hx; omega
 have hlt := (List.getElem?_eq_some_iff.1 hq).1
 have := q0z6 (k := g.w.length) (q105 g.nd pl g.nd.length) h0 hq hi _ (Nat.le_refl _)
 rw [if_pos hlt] at this
 exact this
end Go.Ab

/- Contracts: the best number and the first best response, the reference's. -/
namespace Go.Ab
open Go.Proofs

theorem q07t {g : Gm} (hg : q0fl g = true) {pl : Int} (hpl : pl = 0 ∨ pl = 1) {own b : Nat} (ho : own < g.w.length) (hb : b < g.w.length) : ∃ (u v : Nat) (r : List Int) (y : Int), fstC pl own b = u /\ fstC pl b own = v /\ g.w[u]? = some r /\ r[v]? = some y /\ (q0p4 g pl own)[b]? = some y /\ u < g.w.length /\ v < r.length := by
 have e0 : (q0p4 g pl own)[b]? = some (if pl = 0 then (g.w.getD own []).getD b 0 else (g.w.getD b []).getD own 0) := by
  unfold q0p4; rw [List.getElem?_map, List.getElem?_range hb]; rfl
 rcases hpl with rfl | rfl
 ·obtain ⟨r, y, h1, h2, _⟩ := q0cn hg ho hb
  refine ⟨own, b, r, y, rfl, rfl, h1, h2, ?_, ho, (List.getElem?_eq_some_iff.1 h2).1⟩
  rw [e0, if_pos rfl]; simp only [List.getD_eq_getElem?_getD, h1, Option.getD_some, h2]
 ·obtain ⟨r, y, h1, h2, _⟩ := q0cn hg hb ho
  refine ⟨b, own, r, y, rfl, rfl, h1, h2, ?_, hb, (List.getElem?_eq_some_iff.1 h2).1⟩
  rw [e0, if_neg (by decide)]; simp only [List.getD_eq_getElem?_getD, h1, Option.getD_some, h2]
theorem cap0 {g : Gm} (hg : q0fl g = true) (pl : Int) (own : Nat) : q05g (q0p4 g pl own) (dpt g) /\ (∀ x ∈ q0p4 g pl own, 0 <= x) := by
 obtain ⟨_, hk, hw, _, _, _⟩ := q0fo hg
 obtain ⟨_, _, _, _, _, h1, h2⟩ := q0cm hg
 have hb := q0p5 hw pl own
 have hs := q0u1 (b := 9) fun x hx => (hb x hx).2
 rw [q0p6] at hs
 have hs0 := q0u4 fun x hx => (hb x hx).1
 refine ⟨?_, fun x hx => (hb x hx).1⟩
 unfold q05g
 have h3 : sumI (q0p4 g pl own) <= 54 := by omega
 have := Int.mul_le_mul h3 h2 (by omega) (by decide)
 omega
theorem Le.bc {a a' : T} {l l' : List T} (h : Le a a') (hl : Le (.box l) (.box l')) : Le (.box (a :: l)) (.box (a' :: l')) := by
 have hb : l.length = l'.length /\ ∀ i (h : i < l.length) (h' : i < l'.length), Le l[i] l'[i] := by
  cases hl with
  | refl => exact ⟨rfl, fun i _ _ => .refl _⟩
  | box h1 h2 => exact ⟨h1, h2⟩
 refine .box (by simp [hb.1]) fun i hi hi' => ?_
 cases i with
 | zero => exact h
 | succ i => exact hb.2 i (by simpa using hi) (by simpa using hi')
theorem Le.nilRows (n : Nat) : Le (.arr 1 (List.replicate n (.v (.slice none 0 0)))) (q0qa (List.replicate n [])) := by
 refine .arr 1 (by simp) fun i h h' => ?_
 simp only [List.getElem_replicate, List.getElem_map]
 exact .nilArr 1
theorem q0qj {g : Gm} (hg : q0fl g = true) {ot : List (List Int)} {pl : Int} (hpl : pl = 0 ∨ pl = 1) (hot : q0nw g ot (1 - pl)) (n : Nat) : -(n * capV) <= runV g ot pl n /\ runV g ot pl n <= n * capV := by
 obtain ⟨p1, hk, hw, _, _, _⟩ := q0fo hg
 obtain ⟨t1, t2, t3, t4⟩ := q0g0 p1
 unfold runV
 refine q0u5 fun own _ => ?_
 have hc := cap0 hg pl own
 exact q021 t2 hpl hot (by omega) (q0p6 g pl own) hc.2 (by rw [q0z1]; exact Int.le_refl _) hc.1
def runT (g : Gm) (ot : List (List Int)) (pl : Int) : T := .tup [.i (runV g ot pl g.w.length), .agg [.i pl, q0qa (runB g ot pl g.w.length)]]
section
attribute [-go_sem] q0i5 q0id fldC lenC idxC q0ip q0lp
theorem q0sq {g : Gm} {ot : List (List Int)} {pl : Int} (hg : q0fl g = true) (hpl : pl = 0 ∨ pl = 1) (hot : q0nw g ot (1 - pl)) : Fun Tryz.prog 74 [] [.t (q0ck g), .t (q0tu (1 - pl, ot))] fun o r => o = [] /\ r = runT g ot pl := by
 obtain ⟨p1, p2, p3, p4, p5⟩ := q0fn hg
 obtain ⟨t1, t2, t3, t4⟩ := q0g0 p1
 obtain ⟨u1, u2, u3, u4, u5, u6, u7⟩ := q0cm hg
 have hsl := q0re g pl t1.2 p2.2
 have hrv := q0qj (n := g.w.length) hg hpl hot
 refine q0c4 (by simp) ?_
 simp -implicitDefEqProofs only [eR', go_sem, q056, q0ck, q0tu, nodes]
 rw [wrap64 (n := 1 - (1 - pl)) (by omega) (by omega), show 1 - (1 - pl) = pl by omega]
 refine q000.res (q0h9 g pl t1.2 p2.2) [] rfl Tryz.call59 (fun e R' hR => ?_) (.inl rfl) ?_
 ·simp -implicitDefEqProofs only [aR', go_sem]
 simp -implicitDefEqProofs only [cR', go_sem, q0qa, q0jc, List.length_map]
 refine ⟨by omega, by omega, ?_⟩
 refine SemC.loopR (σ := Nat) (fun k => St.of [(2, .own 2), (5, .own 5), (6, .own 19), (7, .t (.i (runV g ot pl k))), (8, .t (.i k))] [(2, .box [nodes g.nd, rows g.w, rows g.v]), (5, .box [.i 0, .v (.slice none 0 0)]), (19, srch g ot pl (runB g ot pl k))]) (fun k => k <= g.w.length) (fun k => g.w.length - k) 0 (Weak.o _ _ [some 2, some 5, some 19] ?_ ?_) (by omega) fun k hk R hn hr he => ?_
 ·simp -implicitDefEqProofs only [wR', Nat.reduceBEq, Nat.reduceEqDiff, ↓reduceIte, nodes, runV, List.range_zero, List.map_nil, sumI]
 ·refine ⟨⟨_, rfl, .refl _⟩, rfl, ⟨_, rfl, .refl _⟩, rfl, ⟨_, rfl, ?_⟩, rfl, trivial⟩
  refine .bc (.refl _) (.bc (.refl _) (.bc (.refl _) (.bc (.refl _) (.bc (.refl _) (.bc (.refl _) (.bc ?_ (.refl _)))))))
  exact Le.nilRows _
 ·rcases Nat.lt_or_ge k g.w.length with h9 | h9
  ·simp -implicitDefEqProofs only [eR', go_sem, srch, nodes, decide_eq_true (show (k : Int) < (g.w.length : Int) by omega)]
   refine SemC.loopR (σ := Nat) (fun b => St.of [(2, .own 2), (5, .own 5), (6, .own 19), (7, .t (.i (runV g ot pl k))), (8, .t (.i k)), (9, .own 77), (10, .t (.i b))] [(2, .box [nodes g.nd, rows g.w, rows g.v]), (5, .box [.i 0, .v (.slice none 0 0)]), (19, srch g ot pl (runB g ot pl k)), (77, .arr 1 (((q0p4 g pl k).take b).map T.i))]) (fun b => b <= g.w.length) (fun b => g.w.length - b) 0 (Weak.o _ _ [some 2, some 5, some 19, some 38] ?_ ?_) (by omega) fun b hb R2 hn2 hr2 he2 => ?_
   ·simp -implicitDefEqProofs only [wR', Nat.reduceBEq, Nat.reduceEqDiff, ↓reduceIte, nodes, srch]
   ·exact ⟨⟨_, rfl, .refl _⟩, rfl, ⟨_, rfl, .refl _⟩, rfl, ⟨_, rfl, .refl _⟩, rfl, ⟨_, rfl, .refl _⟩, rfl, trivial⟩
   ·have hrl := q0p6 g pl k
    rcases Nat.lt_or_ge b g.w.length with h8 | h8
    ·obtain ⟨u, v, r, y, d1, d2, d3, d4, d5, d6, d7⟩ := q07t hg hpl h9 h8
     simp -implicitDefEqProofs only [eR', go_sem, srch, nodes, decide_eq_true (show (b : Int) < (g.w.length : Int) by omega)]
     refine q006.ref (q0hb g ot (runB g ot pl k) pl k b) [19] [] rfl Tryz.call86 (by simp) ?_ (by simp) ?_ (.inl rfl) ?_
     ·simp -implicitDefEqProofs only [sR', Nat.reduceEqDiff, ↓reduceIte]
     ·simp -implicitDefEqProofs only [aR', go_sem]
     simp -implicitDefEqProofs only [cR', go_sem, d1, d2, d3, d4, ints]
     refine ⟨by omega, by omega, by omega, by omega, by omega, by omega, by rw [List.length_take]; omega, hn2 _ (b + 1) (Weak.o _ _ [some 2, some 5, some 19, some 63] ?_ ?_) (by omega) (by omega)⟩
     ·simp -implicitDefEqProofs only [wR', Nat.reduceBEq, Nat.reduceEqDiff, ↓reduceIte, nodes, srch, q0lb h8 (by omega)]
     ·refine ⟨⟨_, rfl, .refl _⟩, rfl, ⟨_, rfl, .refl _⟩, rfl, ⟨_, rfl, .refl _⟩, rfl, ⟨_, rfl, ?_⟩, rfl, trivial⟩
      rw [q0uj d5, List.map_append]; exact .refl _
    ·simp -implicitDefEqProofs only [eR', go_sem, srch, nodes, decide_eq_false (show ¬ (b : Int) < (g.w.length : Int) by omega)]
     refine he2 _ _ ?_
     simp -implicitDefEqProofs only [eR', go_sem, srch, nodes]
     rw [List.take_of_length_le (show (q0p4 g pl k).length <= b by omega)]
     refine ⟨_, Weak.trans (Weak.share 77 rfl) (Weak.o [(2, .own 2), (5, .own 5), (6, .own 19), (7, .t (.i (runV g ot pl k))), (8, .t (.i k)), (9, .t (ints (q0p4 g pl k)))] [(2, .box [nodes g.nd, rows g.w, rows g.v]), (5, .box [.i 0, .v (.slice none 0 0)]), (19, srch g ot pl (runB g ot pl k))] [some 2, some 5, some 19] ?_ ?_), ?_⟩
     ·simp -implicitDefEqProofs only [wR', Nat.reduceBEq, Nat.reduceEqDiff, ↓reduceIte, q0rg, srch, nodes, T.toSh, T.toShL_eq_map, List.map_map]
      exact .inr (.inl rfl)
     ·exact ⟨⟨_, rfl, .refl _⟩, rfl, ⟨_, rfl, .refl _⟩, rfl, ⟨_, rfl, .refl _⟩, rfl, trivial⟩
     ·simp -implicitDefEqProofs only [eR', go_sem, srch, nodes]
      refine q006.p (q080 (q0s8 t2 (by omega) g.nd.length 0 (by omega) (by omega) (by omega))) [] rfl Tryz.call63 ?_ ?_
      ·simp -implicitDefEqProofs only [aR', go_sem]
      simp -implicitDefEqProofs only [eR', go_sem]
      rw [u2]
      have hc := cap0 hg pl k
      have hcall := q0sr hg hpl hot h9 g.nd.length 0 (q0p4 g pl k) (dpt g) (runB g ot pl k) (by omega) (by omega) hrl hc.2 (by rw [q0z1]; exact Int.le_refl _) u3 hc.1 (q0qh t2 ot pl k)
      rw [← q0qi] at hcall
      simp only [srch, nodes, rows, ints] at hcall
      have hv1 := q0qj hg hpl hot k
      have hv2 := q0qj hg hpl hot (k + 1)
      have hcv : capV = 4199040000000 := rfl
      have hk6 : ((k + 1 : Nat) : Int) * capV <= 6 * capV := Int.mul_le_mul_of_nonneg_right (by omega) (by decide)
      rw [q0qk] at hv2
      refine q006.ref hcall [19] [] rfl Tryz.call87 (by simp) ?_ (by simp) ?_ (.inl rfl) ?_
      ·simp -implicitDefEqProofs only [sR', Nat.reduceEqDiff, ↓reduceIte]
      ·simp -implicitDefEqProofs only [aR', go_sem]
      simp -implicitDefEqProofs only [cR', go_sem]
      refine hn _ (k + 1) (Weak.o _ _ [some 2, some 5, some 19] ?_ ?_) (by omega) (by omega)
      ·simp -implicitDefEqProofs only [wR', Nat.reduceBEq, Nat.reduceEqDiff, ↓reduceIte, srch, nodes, q0lb h9 (by omega), wrap64 (n := runV g ot pl k + q01z g ot pl k g.nd.length 0 (q0p4 g pl k) (dpt g)) (by omega) (by omega), q0qk]
      ·exact ⟨⟨_, rfl, .refl _⟩, rfl, ⟨_, rfl, .refl _⟩, rfl, ⟨_, rfl, .refl _⟩, rfl, trivial⟩
  ·simp -implicitDefEqProofs only [eR', go_sem, srch, nodes, decide_eq_false (show ¬ (k : Int) < (g.w.length : Int) by omega)]
   refine he _ _ ?_
   simp -implicitDefEqProofs only [eR', go_sem]
   refine ⟨_, Weak.open 19 6 500 rfl rfl rfl (by decide) rfl, ?_⟩
   simp -implicitDefEqProofs only [eR', go_sem, List.lookup_cons, beq_self_eq_true, Nat.reduceBEq]
   rw [show k = g.w.length by omega]; rfl
end

def rbox (g : Gm) (ot : List (List Int)) (pl : Int) (card : Int) (B : List (List Int)) : T := .box [nodes g.nd, rows g.w, rows g.v, .i pl, .i card, ints (ownL g pl), ints (ownL g (1 - pl)), rows ot, .i pl, q0qa B]
def uS (g : Gm) (pl : Int) (i own : Nat) (reach : List Int) (k : Nat) : Int := sumI ((List.range k).map fun c => reach.getD c 0 * payP g pl i own c)
theorem q0wv (g : Gm) (pl : Int) (i own : Nat) (reach : List Int) (k : Nat) : uS g pl i own reach (k + 1) = uS g pl i own reach k + reach.getD k 0 * payP g pl i own k := by
 unfold uS
 rw [List.range_succ, List.map_append, List.map_cons, List.map_nil, q0u7]
theorem q0wu {g : Gm} {pl : Int} {i own : Nat} {reach : List Int} {p : Nat} (hp : q0nz g) (h0 : ∀ x ∈ reach, 0 <= x) (hc : q05g reach p) (k : Nat) : -(k * capV) <= uS g pl i own reach k /\ uS g pl i own reach k <= k * capV := by
 unfold uS
 refine q0u5 fun c _ => ?_
 obtain ⟨h1, h2⟩ := q0o2 hp pl i own c
 exact (q0ul h0 hc (c := c) h1 h2).2
theorem q0o5 {g : Gm} (hg : q0fl g = true) (i a b : Nat) (hi : i < g.nd.length) (ha : a < g.w.length) (hb : b < g.w.length) : Pure Tryz.prog 85 [.agg [.sh 5 (chunk q0lu g.nd), .sh 1 (g.w.map ints), .sh 1 (g.v.map ints)], .i i, .i a, .i b] (.i (pay g i a b)) := q0ew g hg i a b hi ha hb
theorem q05h {reach : List Int} {p : Nat} (h0 : ∀ x ∈ reach, 0 <= x) (hc : q05g reach (p + 1)) : q05g reach p := by
 have h1 := q0u4 h0
 have h2 := Int.mul_le_mul_of_nonneg_left (q0oi (show p <= p + 1 by omega)) h1
 unfold q05g at hc ⊢
 omega
section
attribute [-go_sem] q0i5 q0id fldC lenC idxC q0ip q0lp
theorem q0ey {g : Gm} {ot : List (List Int)} {pl : Int} {own : Nat} (hg : q0fl g = true) (hpl : pl = 0 ∨ pl = 1) (hot : q0nw g ot (1 - pl)) (hown : own < g.w.length) : ∀ (f i : Nat) (reach : List Int) (p : Nat) (B : List (List Int)), g.nd.length <= i + f -> i < g.nd.length -> reach.length = g.w.length -> (∀ x ∈ reach, 0 <= x) -> dep g.nd f i <= p -> p <= 5 -> q05g reach p -> q0q7 (sets g pl).length B →
  Fun Tryz.prog 73 [rbox g ot pl own B] [.own 1000000000, .t (.i i), .t (ints reach), .t (.i p)] fun o r => o = [rbox g ot pl own (q01u g ot pl own f i reach p B)] /\ r = .i (q01z g ot pl own f i reach p) := by
 obtain ⟨p1, p2, p3, p4, p5⟩ := q0fn hg
 obtain ⟨t1, t2, t3, t4⟩ := q0g0 p1
 have hpay := q0o0 t2
 have hcv : capV = 4199040000000 := rfl
 intro f
 induction f with
 | zero => intro i reach p B h1 h2; omega
 | succ f ih =>
   intro i reach p B hf hi hrl hr0 hdp hp5 hcap hBl
   obtain ⟨x, hx⟩ : ∃ x, g.nd[i]? = some x := ⟨_, List.getElem?_eq_getElem hi⟩
   have hxd : g.nd.getD i nd0 = x := by rw [List.getD_eq_getElem?_getD, hx]; rfl
   have hxl := (q0ks (t2 _ _ hx)).2.2.2.2.2
   have hB2 : x.p = 2 -> q01u g ot pl own (f + 1) i reach p B = B := fun h => by rw [q01u]; simp only [hxd]; rw [if_pos h]
   have hV2 : x.p = 2 -> q01z g ot pl own (f + 1) i reach p = uS g pl i own reach reach.length * pw p := fun h => by rw [q01z]; simp only [hxd]; rw [if_pos h]; rfl
   have hB1 : x.p ≠ 2 -> x.p = pl -> q01u g ot pl own (f + 1) i reach p B = (x.ch.foldl (fun B c => q01u g ot pl own f c.toNat reach p B) B).set (setI g pl i own) ((List.replicate x.ch.length 0).set (q01b (x.ch.map fun c => q01z g ot pl own f c.toNat reach p)) 60) := fun h h' => by rw [q01u]; simp only [hxd]; rw [if_neg h, if_pos h']
   have hV1 : x.p ≠ 2 -> x.p = pl -> q01z g ot pl own (f + 1) i reach p = (x.ch.map fun c => q01z g ot pl own f c.toNat reach p).getD (q01b (x.ch.map fun c => q01z g ot pl own f c.toNat reach p)) 0 := fun h h' => by rw [q01z]; simp only [hxd]; rw [if_neg h, if_pos h']
   have hB0 : x.p ≠ 2 -> x.p ≠ pl -> q01u g ot pl own (f + 1) i reach p B = (List.range x.ch.length).foldl (fun B k => q01u g ot pl own f (x.ch.getD k 0).toNat (q0lc g ot pl i reach k) (p - 1) B) B := fun h h' => by rw [q01u]; simp only [hxd]; rw [if_neg h, if_neg h']
   have hV0 : x.p ≠ 2 -> x.p ≠ pl -> q01z g ot pl own (f + 1) i reach p = sumI ((List.range x.ch.length).map fun k => q01z g ot pl own f (x.ch.getD k 0).toNat (q0lc g ot pl i reach k) (p - 1)) := fun h h' => by rw [q01z]; simp only [hxd]; rw [if_neg h, if_neg h']
   generalize q01u g ot pl own (f + 1) i reach p B = B' at hB2 hB1 hB0 ⊢
   generalize q01z g ot pl own (f + 1) i reach p = V' at hV2 hV1 hV0 ⊢
   refine q0a7 (by simp) ?_
   simp -implicitDefEqProofs only [eR', go_sem, q039, rbox, nodes, q0kw hx]
   refine ⟨by omega, by rw [q0l0]; omega, by rw [q0l0]; omega, ?_⟩
   refine ⟨fun h2 => ?_, fun h2 => ?_⟩
   ·have h2 : x.p = 2 := by simpa using h2
    rw [hB2 h2, hV2 h2]
    refine SemC.loopR (σ := Nat) (fun k => St.of [(0, .own 1000000000), (1, .t (.i i)), (2, .t (ints reach)), (3, .t (.i p)), (10, .t (.i (uS g pl i own reach k))), (38, .t (ints reach)), (39, .t (.i reach.length)), (40, .t (.i k))] [(1000000000, rbox g ot pl own B)]) (fun k => k <= reach.length) (fun k => reach.length - k) 0 (Weak.o _ _ [some 1000000000] ?_ ?_) (by omega) fun k hk R hn hr he => ?_
    ·simp -implicitDefEqProofs only [wR', Nat.reduceBEq, Nat.reduceEqDiff, ↓reduceIte, show uS g pl i own reach 0 = 0 by simp [uS, sumI]]
    ·exact ⟨⟨_, rfl, .refl _⟩, rfl, trivial⟩
    ·have m5 := q0wu (pl := pl) (i := i) (own := own) hpay hr0 hcap k
     have m7 : (k : Int) * capV <= 6 * capV := Int.mul_le_mul_of_nonneg_right (by omega) (by decide)
     rcases Nat.lt_or_ge k reach.length with h9 | h9
     ·obtain ⟨y, hy⟩ : ∃ y, reach[k]? = some y := ⟨_, List.getElem?_eq_getElem h9⟩
      have hyd : reach.getD k 0 = y := by rw [List.getD_eq_getElem?_getD, hy]; rfl
      obtain ⟨q1, q2⟩ := q0o2 hpay pl i own k
      obtain ⟨_, m3, m4⟩ := q0ul hr0 hcap (c := k) q1 q2
      have m6 := q0wv g pl i own reach k
      rw [hyd] at m3 m4 m6
      simp -implicitDefEqProofs only [eR', go_sem, rbox, nodes, hy, decide_eq_true (show (k : Int) < (reach.length : Int) by omega)]
      refine ⟨by omega, by omega, by omega, fun h5 => ?_, fun h5 => ?_⟩
      ·have h5 : pl = 0 := by simpa using h5
       have hP : payP g pl i own k = pay g i own k := by rw [payP, if_pos h5]
       rw [hP] at m3 m4 m6 q1 q2
       refine q004.pure (q0o5 hg i own k hi hown (by omega)) [] rfl Tryz.call85 (fun e R' hR => ?_) (by first | trivial | simp [T.noSh, T.noShL, rat]) (fun _ => rfl) ?_
       ·simp -implicitDefEqProofs only [aR', go_sem]
       simp -implicitDefEqProofs only [eR', go_sem]
       refine hn _ (k + 1) (Weak.o _ _ [some 1000000000] ?_ ?_) (by omega) (by omega)
       ·simp -implicitDefEqProofs only [wR', Nat.reduceBEq, Nat.reduceEqDiff, ↓reduceIte, rbox, nodes, q0lb h9 (by omega), wrap64 (n := y * pay g i own k) (by omega) (by omega), ← m6, wrap64 (n := uS g pl i own reach (k + 1)) (by omega) (by omega)]
       ·exact ⟨⟨_, rfl, .refl _⟩, rfl, trivial⟩
      ·have h5 : ¬ pl = 0 := by simpa using h5
       have hP : payP g pl i own k = -pay g i k own := by rw [payP, if_neg h5]
       rw [hP] at m3 m4 m6 q1 q2
       rw [Int.mul_neg] at m3 m4 m6
       refine q004.pure (q0o5 hg i k own hi (by omega) hown) [] rfl Tryz.call85 (fun e R' hR => ?_) (by first | trivial | simp [T.noSh, T.noShL, rat]) (fun _ => rfl) ?_
       ·simp -implicitDefEqProofs only [aR', go_sem]
       simp -implicitDefEqProofs only [eR', go_sem]
       refine hn _ (k + 1) (Weak.o _ _ [some 1000000000] ?_ ?_) (by omega) (by omega)
       ·simp -implicitDefEqProofs only [wR', Nat.reduceBEq, Nat.reduceEqDiff, ↓reduceIte, rbox, nodes, q0lb h9 (by omega), wrap64 (n := y * pay g i k own) (by omega) (by omega), Int.sub_eq_add_neg, ← m6, wrap64 (n := uS g pl i own reach (k + 1)) (by omega) (by omega)]
       ·exact ⟨⟨_, rfl, .refl _⟩, rfl, trivial⟩
     ·simp -implicitDefEqProofs only [eR', go_sem, rbox, nodes, decide_eq_false (show ¬ (k : Int) < (reach.length : Int) by omega)]
      refine he _ _ ?_
      simp -implicitDefEqProofs only [eR', go_sem]
      have hke : k = reach.length := by omega
      have m8 := q0ug (pl := pl) (i := i) (own := own) hpay hr0 hcap reach.length
      have m9 : (reach.length : Int) * capV <= 6 * capV := Int.mul_le_mul_of_nonneg_right (by omega) (by decide)
      have m10 : tS g pl i own reach p reach.length = uS g pl i own reach reach.length * pw p := rfl
      refine q006.p (q0ex p (by omega)) [] rfl Tryz.call56 ?_ ?_
      ·simp -implicitDefEqProofs only [aR', go_sem]
      simp -implicitDefEqProofs only [eR', go_sem]
      rw [hke, wrap64 (n := uS g pl i own reach reach.length * pw p) (by omega) (by omega)]
   have h2 : x.p ≠ 2 := by simpa using h2
   have hp2 : (g.nd.getD i nd0).p ≠ 2 := by rw [hxd]; exact h2
   obtain ⟨d1, d2⟩ := q07w (f := f) hp2
   rw [hxd] at d2
   have hch := q0kp (t2 _ _ hx)
   have hset : setI g pl i own = (idxs g.nd pl i).length * g.w.length + own := rfl
   have hp1 : 1 <= p := by omega
   obtain ⟨p', rfl⟩ : ∃ p', p = p' + 1 := ⟨p - 1, by omega⟩
   have hcapl := q05h hr0 hcap
   refine ⟨fun h3 => ?_, fun h3 => ?_⟩
   ·have h3 : x.p = pl := by simpa using h3
    have hpd : (g.nd.getD i nd0).p = pl := by rw [hxd]; exact h3
    have hVm : (x.ch.map fun c => q01z g ot pl own f c.toNat reach (p' + 1)) = (x.ch.map fun c => q01z g ot pl own f c.toNat reach p').map fun x => 60 * x := by
     rw [List.map_map]
     exact List.map_congr_left fun c hc => q022 f c.toNat reach p' (by have := d2 c hc; omega)
    have hBm : (x.ch.foldl (fun B c => q01u g ot pl own f c.toNat reach (p' + 1) B) B) = x.ch.foldl (fun B c => q01u g ot pl own f c.toNat reach p' B) B := q09m _ _ fun B c hc => q01w f c.toNat reach p' B (by have := d2 c hc; omega)
    have hB1 := hB1 h2 h3
    have hV1 := hV1 h2 h3
    rw [hVm, q01g, q0cp] at hV1
    rw [hVm, q01g, hBm] at hB1
    generalize hF : (fun (B : List (List Int)) (c : Int) => q01u g ot pl own f c.toNat reach p' B) = F at hB1
    generalize hvs : (x.ch.map fun c => q01z g ot pl own f c.toNat reach p') = vs at hB1 hV1
    have hvl : vs.length = x.ch.length := by rw [← hvs, List.length_map]
    have hvb : ∀ y ∈ vs, -capV <= y /\ y <= capV := fun y hy => by
     rw [← hvs] at hy
     obtain ⟨c, hcm, rfl⟩ := List.mem_map.1 hy
     have hcb := hch c hcm
     have hcd := d2 c hcm
     exact q021 t2 hpl hot (by omega) hrl hr0 (by omega) hcapl
    rw [hB1, hV1]
    refine SemC.loopR (σ := Nat) (fun k => St.of [(0, .own 1000000000), (1, .t (.i i)), (2, .t (ints reach)), (3, .t (.i (p' + 1 : Nat))), (9, .own 9), (13, .t (.i (q01b.go k vs))), (14, .t (.i (cntA vs k))), (92, .t (ints x.ch)), (93, .t (.i x.ch.length)), (94, .t (.i k))] [(9, .box [.i x.p, .i x.a, .i x.b, .i x.f, ints x.ch]), (1000000000, rbox g ot pl own ((x.ch.take k).foldl F B))]) (fun k => k <= x.ch.length) (fun k => x.ch.length - k) 0 (Weak.o _ _ [some 9, some 1000000000] ?_ ?_) (by omega) fun k hk R hn hr he => ?_
    ·simp -implicitDefEqProofs only [wR', Nat.reduceBEq, Nat.reduceEqDiff, ↓reduceIte, show cntA vs 0 = 0 from rfl, show q01b.go 0 vs = 0 from rfl]
    ·exact ⟨⟨_, rfl, .refl _⟩, rfl, ⟨_, rfl, .refl _⟩, rfl, trivial⟩
    ·rcases Nat.lt_or_ge k x.ch.length with h9 | h9
     ·obtain ⟨c, hc⟩ : ∃ c, x.ch[k]? = some c := ⟨_, List.getElem?_eq_getElem h9⟩
      have hcm := List.mem_of_getElem? hc
      have hcb := hch c hcm
      have hcd := d2 c hcm
      have hrow : q0q7 (sets g pl).length ((x.ch.take k).foldl F B) := by
       refine q09n (q0q7 (sets g pl).length) _ _ hBl fun B' c' _ hB' => ?_
       rw [← hF]; exact q01v t2 f _ _ _ _ hB'
      have hcall := ih c.toNat reach p' ((x.ch.take k).foldl F B) (by omega) (by omega) hrl hr0 (by omega) (by omega) hcapl hrow
      rw [show ((c.toNat : Nat) : Int) = c by omega, show q01u g ot pl own f c.toNat reach p' ((x.ch.take k).foldl F B) = (x.ch.take (k + 1)).foldl F B by rw [q09r F x.ch B hc, ← hF]] at hcall
      have hvk : vs[k]? = some (q01z g ot pl own f c.toNat reach p') := by rw [← hvs, List.getElem?_map, hc]; rfl
      obtain ⟨g1, g2⟩ := q0db hvk
      generalize q01z g ot pl own f c.toNat reach p' = n at hcall hvk g1 g2
      simp only [rbox, nodes, rows, ints] at hcall
      simp -implicitDefEqProofs only [eR', go_sem, rbox, nodes, hc, decide_eq_true (show (k : Int) < (x.ch.length : Int) by omega)]
      refine ⟨by omega, by omega, by omega, ?_⟩
      rw [wrap64 (n := ((p' + 1 : Nat) : Int) - 1) (by omega) (by omega), show ((p' + 1 : Nat) : Int) - 1 = (p' : Int) by omega]
      refine q006.ref hcall [1000000000] [] rfl Tryz.call73 (by simp) ?_ (by simp) ?_ (.inl rfl) ?_
      ·simp -implicitDefEqProofs only [sR', Nat.reduceEqDiff, ↓reduceIte]
      ·simp -implicitDefEqProofs only [aR', go_sem]
      simp -implicitDefEqProofs only [cR', go_sem]
      refine ⟨fun h0 => ⟨fun h1 => ?_, fun h1 => ?_⟩, fun h0 => ?_⟩
      ·rw [if_pos (.inr h1)] at g1 g2
       refine hn _ (k + 1) (Weak.o _ _ [some 9, some 1000000000] ?_ ?_) (by omega) (by omega)
       ·simp -implicitDefEqProofs only [wR', Nat.reduceBEq, Nat.reduceEqDiff, ↓reduceIte, q0lb h9 (by omega), g1, g2]
       ·exact ⟨⟨_, rfl, .refl _⟩, rfl, ⟨_, rfl, .refl _⟩, rfl, trivial⟩
      ·rw [if_neg (by rintro (h | h); (· rw [h] at h0; simp at h0); (· exact h1 h))] at g1 g2
       refine hn _ (k + 1) (Weak.o _ _ [some 9, some 1000000000] ?_ ?_) (by omega) (by omega)
       ·simp -implicitDefEqProofs only [wR', Nat.reduceBEq, Nat.reduceEqDiff, ↓reduceIte, q0lb h9 (by omega), g1, g2]
       ·exact ⟨⟨_, rfl, .refl _⟩, rfl, ⟨_, rfl, .refl _⟩, rfl, trivial⟩
      ·rw [if_pos (.inl (by simpa using h0))] at g1 g2
       refine hn _ (k + 1) (Weak.o _ _ [some 9, some 1000000000] ?_ ?_) (by omega) (by omega)
       ·simp -implicitDefEqProofs only [wR', Nat.reduceBEq, Nat.reduceEqDiff, ↓reduceIte, q0lb h9 (by omega), g1, g2]
       ·exact ⟨⟨_, rfl, .refl _⟩, rfl, ⟨_, rfl, .refl _⟩, rfl, trivial⟩
     ·simp -implicitDefEqProofs only [eR', go_sem, rbox, nodes, decide_eq_false (show ¬ (k : Int) < (x.ch.length : Int) by omega)]
      refine he _ _ ?_
      simp -implicitDefEqProofs only [eR', go_sem, rbox, nodes]
      have hke : k = x.ch.length := by omega
      have hcl1 : 1 <= x.ch.length := ((q0ks (t2 _ _ hx)).2.2.2.2.1 h2).2
      have hgl := q01e vs k (by omega)
      have hge : q01b.go k vs = q01b vs := by rw [q01c, hvl, hke]
      rw [q0jc, List.length_replicate]
      refine ⟨by omega, by omega, by omega, by omega, by omega, ?_⟩
      rw [show x.ch.take k = x.ch by rw [hke, List.take_length]]
      have hrowA : q0q7 (sets g pl).length (x.ch.foldl F B) := by
       refine q09n (q0q7 (sets g pl).length) _ _ hBl fun B' c' _ hB' => ?_
       rw [← hF]; exact q01v t2 f _ _ _ _ hB'
      have hslt := q0qy (pl := pl) hi hown hpd
      have hsl := q0re g pl t1.2 p2.2
      have hrl1 := hrowA.1
      have hoi := q10y hi hpd
      have hol := q10z g pl
      refine ⟨_, Weak.open 1000000000 9 500 rfl rfl rfl (by decide) rfl, ?_⟩
      simp -implicitDefEqProofs only [eR', go_sem, List.lookup_cons, beq_self_eq_true, Nat.reduceBEq, q0qa, hoi, wrap64 (n := ((setI g pl i own : Nat) : Int)) (by omega) (by omega), show (((idxs g.nd pl i).length * g.w.length : Nat) : Int) + (own : Int) = ((setI g pl i own : Nat) : Int) by omega]
      refine ⟨by omega, by omega, by omega, by omega, by omega, by omega, ?_⟩
      refine ⟨_, Weak.join2 Tryz.prog q0wk (sl 125) (sl 126) rfl rfl rfl rfl (by decide) (by simp), ?_⟩
      simp -implicitDefEqProofs only [eR', go_sem]
      have hcn : cntA vs k = vs.getD (q01b vs) 0 := by rw [cntA, if_neg (by omega), hge]
      have hvm : -capV <= vs.getD (q01b vs) 0 /\ vs.getD (q01b vs) 0 <= capV := hvb _ (q0cq 0 (by omega))
      refine ⟨?_, ?_⟩
      ·rw [List.map_set, intsO, List.map_set, List.map_replicate, hge]
      ·rw [hcn, wrap64 (n := vs.getD (q01b vs) 0 * 60) (by omega) (by omega), Int.mul_comm]
   ·have h3 : x.p ≠ pl := by simpa using h3
    have hpo : x.p = 1 - pl := by
     obtain ⟨⟨q1, q2⟩, _⟩ := q0ks (t2 _ _ hx)
     omega
    have hpd : (g.nd.getD i nd0).p = 1 - pl := by rw [hxd]; exact hpo
    generalize hF : (fun (B : List (List Int)) (k : Nat) => q01u g ot pl own f (x.ch.getD k 0).toNat (q0lc g ot pl i reach k) (p' + 1 - 1) B) = F at hB0
    generalize hG : (fun k => q01z g ot pl own f (x.ch.getD k 0).toNat (q0lc g ot pl i reach k) (p' + 1 - 1)) = G at hV0
    rw [hB0 h2 h3, hV0 h2 h3]
    refine SemC.loopR (σ := Nat) (fun k => St.of [(0, .own 1000000000), (1, .t (.i i)), (2, .t (ints reach)), (3, .t (.i (p' + 1 : Nat))), (19, .t (.i (sumI ((List.range k).map G)))), (144, .t (ints x.ch)), (145, .t (.i x.ch.length)), (146, .t (.i k))] [(1000000000, rbox g ot pl own ((List.range k).foldl F B))]) (fun k => k <= x.ch.length) (fun k => x.ch.length - k) 0 (Weak.o _ _ [some 1000000000] ?_ ?_) (by omega) fun k hk R hn hr he => ?_
    ·simp -implicitDefEqProofs only [wR', Nat.reduceBEq, Nat.reduceEqDiff, ↓reduceIte, List.range_zero, List.map_nil, show sumI [] = 0 from rfl]
    ·exact ⟨⟨_, rfl, .refl _⟩, rfl, trivial⟩
    ·rcases Nat.lt_or_ge k x.ch.length with h9 | h9
     ·obtain ⟨c, hc⟩ : ∃ c, x.ch[k]? = some c := ⟨_, List.getElem?_eq_getElem h9⟩
      simp -implicitDefEqProofs only [eR', go_sem, rbox, nodes, hc, q0jc, decide_eq_true (show (k : Int) < (x.ch.length : Int) by omega)]
      have hnl : (q0lc g ot pl i reach k).length = reach.length := q0lf _ _ _ _ _ _
      refine ⟨by omega, by omega, by omega, by omega, by omega, ?_⟩
      refine SemC.loopR (σ := Nat) (fun b => St.of [(0, .own 1000000000), (1, .t (.i i)), (2, .t (ints reach)), (3, .t (.i (p' + 1 : Nat))), (19, .t (.i (sumI ((List.range k).map G)))), (20, .t (.i k)), (21, .t (.i c)), (22, .own 77), (144, .t (ints x.ch)), (145, .t (.i x.ch.length)), (146, .t (.i k)), (154, .t (ints reach)), (155, .t (.i reach.length)), (156, .t (.i b))] [(77, .arr 1 (filled (q0lc g ot pl i reach k) T.i (.i 0) b)), (1000000000, rbox g ot pl own ((List.range k).foldl F B))]) (fun b => b <= reach.length) (fun b => reach.length - b) 0 (Weak.o _ _ [some 153, some 1000000000] ?_ ?_) (by omega) fun b hb R2 hn2 hr2 he2 => ?_
      ·simp -implicitDefEqProofs only [wR', Nat.reduceBEq, Nat.reduceEqDiff, ↓reduceIte, rbox, nodes]
      ·refine ⟨⟨_, rfl, ?_⟩, rfl, ⟨_, rfl, .refl _⟩, rfl, trivial⟩
       rw [q097, hnl]; exact .refl _
      ·have hfl := q095 (q0lc g ot pl i reach k) T.i (.i 0) b (by omega)
       rcases Nat.lt_or_ge b reach.length with h8 | h8
       ·obtain ⟨y, hy⟩ : ∃ y, reach[b]? = some y := ⟨_, List.getElem?_eq_getElem h8⟩
        obtain ⟨o1, o2, o3⟩ := hot i b hi (by omega) hpd
        obtain ⟨r, hr1⟩ : ∃ r, ot[setI g (1 - pl) i b]? = some r := by
         cases h : ot[setI g (1 - pl) i b]? with
         | some r => exact ⟨r, rfl⟩
         | none =>
           rw [partsOf, List.getD_eq_getElem?_getD, h, hxd] at o1
           simp at o1
           omega
        have hrp : partsOf g ot (1 - pl) i b = r := by rw [partsOf, List.getD_eq_getElem?_getD, hr1]; rfl
        rw [hrp] at o1 o2
        rw [hxd] at o1
        obtain ⟨y2, hy2⟩ : ∃ y2, r[k]? = some y2 := ⟨_, List.getElem?_eq_getElem (by omega)⟩
        have hy2b := o2 y2 (List.mem_of_getElem? hy2)
        have hslt := (List.getElem?_eq_some_iff.1 hr1).1
        have hyb : 0 <= y /\ y <= 41990400000 := by
         have h1 := q0p7 hr0 b
         rw [List.getD_eq_getElem?_getD, hy] at h1
         have h2 := q0ok p'
         have h3 := q0u4 hr0
         have h4 := Int.mul_le_mul_of_nonneg_left (show (1 : Int) <= pw p' by omega) h3
         unfold q05g at hcapl
         simp only [Option.getD_some] at h1
         omega
        have hm1 := Int.mul_nonneg hyb.1 hy2b.1
        have hm2 : y * y2 <= 41990400000 * 60 := Int.mul_le_mul hyb.2 hy2b.2 hy2b.1 (by decide)
        have hnx : (q0lc g ot pl i reach k)[b]? = some (y * y2) := by
         rw [q0lc, List.getElem?_map, List.getElem?_range (by omega), Option.map_some, hrp, List.getD_eq_getElem?_getD, hy, List.getD_eq_getElem?_getD, hy2]; rfl
        have hoi := q10y hi hpd
        have hol := q10z g (1 - pl)
        have hset : setI g (1 - pl) i b = (idxs g.nd (1 - pl) i).length * g.w.length + b := rfl
        have hsl := q0re g (1 - pl) t1.2 p2.2
        have hsi := q0qy (g := g) (pl := 1 - pl) hi (show b < g.w.length by omega) hpd
        simp -implicitDefEqProofs only [eR', go_sem, rbox, nodes, hy, hoi, hr1, hy2, hfl, decide_eq_true (show (b : Int) < (reach.length : Int) by omega), wrap64 (n := ((setI g (1 - pl) i b : Nat) : Int)) (by omega) (by omega), show (((idxs g.nd (1 - pl) i).length * g.w.length : Nat) : Int) + (b : Int) = ((setI g (1 - pl) i b : Nat) : Int) by omega]
        refine ⟨by omega, by omega, by omega, by omega, by omega, by omega, by omega, by omega, by omega, by omega, by omega, by omega, by omega, by omega, by omega, hn2 _ (b + 1) (Weak.o _ _ [some 77, some 1000000000] ?_ ?_) (by omega) (by omega)⟩
        ·simp -implicitDefEqProofs only [wR', Nat.reduceBEq, Nat.reduceEqDiff, ↓reduceIte, rbox, nodes, q0lb h8 (by omega)]
        ·refine ⟨⟨_, rfl, ?_⟩, rfl, ⟨_, rfl, .refl _⟩, rfl, trivial⟩
         rw [wrap64 (n := y * y2) (by omega) (by omega), q096 hnx]; exact .refl _
       ·simp -implicitDefEqProofs only [eR', go_sem, rbox, nodes, decide_eq_false (show ¬ (b : Int) < (reach.length : Int) by omega)]
        refine he2 _ _ ?_
        simp -implicitDefEqProofs only [eR', go_sem, rbox, nodes]
        have hbl : b = (q0lc g ot pl i reach k).length := by omega
        rw [hbl, q093]
        refine ⟨_, Weak.trans (Weak.share 77 rfl) (Weak.o [(0, .own 1000000000), (1, .t (.i i)), (2, .t (ints reach)), (3, .t (.i (p' + 1 : Nat))), (19, .t (.i (sumI ((List.range k).map G)))), (20, .t (.i k)), (21, .t (.i c)), (22, .t (ints (q0lc g ot pl i reach k))), (144, .t (ints x.ch)), (145, .t (.i x.ch.length)), (146, .t (.i k))] [(1000000000, rbox g ot pl own ((List.range k).foldl F B))] [some 1000000000] ?_ ?_), ?_⟩
        ·simp -implicitDefEqProofs only [wR', Nat.reduceBEq, Nat.reduceEqDiff, ↓reduceIte, q0rg, rbox, nodes, T.toSh, T.toShL_eq_map, List.map_map]
         exact .inr (.inl rfl)
        ·exact ⟨⟨_, rfl, .refl _⟩, rfl, trivial⟩
        ·simp -implicitDefEqProofs only [eR', go_sem, rbox, nodes, hc]
         have hcm := List.mem_of_getElem? hc
         have hcb := hch c hcm
         have hcd := d2 c hcm
         have hcd0 : x.ch.getD k 0 = c := by rw [List.getD_eq_getElem?_getD, hc]; rfl
         have hch1 : ∀ j, j < x.ch.length -> -capV <= G j /\ G j <= capV := fun j hj => by
          have hmj := q0cq (0 : Int) hj
          have hjb := hch _ hmj
          have hjd := d2 _ hmj
          rw [← hG]
          exact q021 t2 hpl hot (by omega) (by rw [q0lf]; exact hrl) (q0lg hot hi hrl hpd hr0 j) (by omega) (q05i hot hi hrl hpd hr0 hcap (by rw [hxd]; exact hj))
         have hs1 := q0u5 (G := G) (c := capV) (n := k) fun j hj => hch1 j (by omega)
         have hs2 := hch1 k h9
         have hk4 : (k : Int) * capV <= 4 * capV := Int.mul_le_mul_of_nonneg_right (by omega) (by decide)
         have hrow : q0q7 (sets g pl).length ((List.range k).foldl F B) := by
          refine q09n (q0q7 (sets g pl).length) _ _ hBl fun B' c' _ hB' => ?_
          rw [← hF]; exact q01v t2 f _ _ _ _ hB'
         have hcall := ih c.toNat (q0lc g ot pl i reach k) p' ((List.range k).foldl F B) (by omega) (by omega) (by omega) (q0lg hot hi hrl hpd hr0 k) (by omega) (by omega) (q05i hot hi hrl hpd hr0 hcap (by rw [hxd]; omega)) hrow
         rw [show ((c.toNat : Nat) : Int) = c by omega, show q01u g ot pl own f c.toNat (q0lc g ot pl i reach k) p' ((List.range k).foldl F B) = (List.range (k + 1)).foldl F B by rw [List.range_succ, List.foldl_append, ← hF, List.foldl_cons, List.foldl_nil]; simp only [hcd0, Nat.add_sub_cancel], show q01z g ot pl own f c.toNat (q0lc g ot pl i reach k) p' = G k by rw [← hG]; simp only [hcd0, Nat.add_sub_cancel]] at hcall
         have hsg : sumI ((List.range (k + 1)).map G) = sumI ((List.range k).map G) + G k := by rw [List.range_succ, List.map_append, List.map_cons, List.map_nil, q0u7]
         simp only [rbox, nodes, rows, ints] at hcall
         rw [wrap64 (n := ((p' + 1 : Nat) : Int) - 1) (by omega) (by omega), show ((p' + 1 : Nat) : Int) - 1 = (p' : Int) by omega]
         refine q006.ref hcall [1000000000] [] rfl Tryz.call73 (by simp) ?_ (by simp) ?_ (.inl rfl) ?_
         ·simp -implicitDefEqProofs only [sR', Nat.reduceEqDiff, ↓reduceIte]
         ·simp -implicitDefEqProofs only [aR', go_sem]
         simp -implicitDefEqProofs only [cR', go_sem]
         refine hn _ (k + 1) (Weak.o _ _ [some 1000000000] ?_ ?_) (by omega) (by omega)
         ·simp -implicitDefEqProofs only [wR', Nat.reduceBEq, Nat.reduceEqDiff, ↓reduceIte, rbox, nodes, q0lb h9 (by omega), hsg, wrap64 (n := sumI ((List.range k).map G) + G k) (by omega) (by omega)]
         ·refine ⟨⟨_, rfl, ?_⟩, rfl, trivial⟩
          rw [List.range_succ]; exact .refl _
     ·simp -implicitDefEqProofs only [eR', go_sem, rbox, nodes, decide_eq_false (show ¬ (k : Int) < (x.ch.length : Int) by omega)]
      refine he _ _ ?_
      simp -implicitDefEqProofs only [eR', go_sem]
      rw [show k = x.ch.length by omega]
      exact ⟨rfl, rfl⟩
end

theorem q0e9 {l : List Nd} {pl : Int} {j : Nat} {y : Int} (h : (idxs l pl l.length)[j]? = some y) : ∃ i : Nat, y = i /\ i < l.length := by
 obtain ⟨i, h1, h2, _⟩ := q0ea (List.mem_of_getElem? h)
 exact ⟨i, h1, h2⟩
theorem q0k7 (m : List Nat) (R R' : Nat -> Root) (r : Nat) : q0k5 m R R' r = if m.any (fun d => decide (r = d) || decide (r / 1000 = d + 1)) then R r else R' r := rfl
def q0p2 (g : Gm) (ot : List (List Int)) (pl : Int) (a b : List Int) : T := .box [nodes g.nd, rows g.w, rows g.v, .i pl, .i 0, intsO a, intsO b, rows ot, .i 0, .v (.slice none 0 0)]
def q0p3 (g : Gm) (ot : List (List Int)) (pl : Int) (B : List (List Int)) : T := .box [nodes g.nd, rows g.w, rows g.v, .i pl, .any, ints (ownL g pl), ints (ownL g (1 - pl)), rows ot, .i pl, q0qa B]
section
attribute [-go_sem] q0i5 q0id fldC lenC idxC q0ip q0lp
theorem q0ei {g : Gm} {ot : List (List Int)} {pl : Int} (hg : q0fl g = true) (hpl : pl = 0 ∨ pl = 1) (hot : q0nw g ot (1 - pl)) : Fun Tryz.prog 40 [] [.t (q0ck g), .t (q0tu (1 - pl, ot))] fun o r => o = [] /\ r = runT g ot pl := by
 obtain ⟨p1, p2, p3, p4, p5⟩ := q0fn hg
 obtain ⟨t1, t2, t3, t4⟩ := q0g0 p1
 obtain ⟨u1, u2, u3, u4, u5, u6, u7⟩ := q0cm hg
 have hsl := q0re g pl t1.2 p2.2
 have hsl2 := q0rf g pl
 have hrv := q0qj (n := g.w.length) hg hpl hot
 have hil := q0e7 g.nd pl g.nd.length
 have hil2 := q0e7 g.nd (1 - pl) g.nd.length
 have hmul : ∀ n : Nat, n <= g.nd.length -> n * g.w.length <= 60 * 6 := fun n hn => Nat.mul_le_mul (by omega) p2.2
 refine q0ac (by simp) ?_
 simp -implicitDefEqProofs only [eR', go_sem, q03e, q0ck, q0tu, nodes, q0jc]
 rw [wrap64 (n := 1 - (1 - pl)) (by omega) (by omega), show 1 - (1 - pl) = pl by omega]
 refine ⟨by omega, by omega, by omega, by omega, ?_⟩
 refine ⟨?_, ((q09v.refl _ _ _).upd _ (.inl (by simp))).upd _ (.inl (by simp))⟩
 simp -implicitDefEqProofs only [eR', go_sem, q0k7]
 have hoL : ∀ q, ownL g q = q0z5 (idxs g.nd q g.nd.length) g.w.length g.nd.length (idxs g.nd q g.nd.length).length := fun q => rfl
 have hfl : ∀ q j, (q0z5 (idxs g.nd q g.nd.length) g.w.length g.nd.length j).length = g.nd.length := fun q j => q0z7 _ _ _ _
 have hfs : ∀ q j (n : Nat), (idxs g.nd q g.nd.length)[j]? = some (n : Int) -> q0z5 (idxs g.nd q g.nd.length) g.w.length g.nd.length (j + 1) = (q0z5 (idxs g.nd q g.nd.length) g.w.length g.nd.length j).set n ((j * g.w.length : Nat) : Int) := fun q j n h => by
  rw [q0z5, List.getD_eq_getElem?_getD, h]; rfl
 refine q006.res (q0et g.nd pl (by omega)) [] rfl Tryz.call72 ?_ (.inl rfl) ?_
 ·simp -implicitDefEqProofs only [aR', go_sem]
 simp -implicitDefEqProofs only [cR', go_sem, intsO, q0k7]
 refine SemC.loopR (σ := Nat) (fun j => St.of [(2, .own 2), (3, .own 3), (5, .own 5), (6, .own 6), (7, .t (.i g.w.length)), (42, .own 42), (43, .t (.i (idxs g.nd pl g.nd.length).length)), (44, .t (.i j))] [(2, .box [nodes g.nd, rows g.w, rows g.v]), (3, .box [.i (1 - pl), rows ot]), (5, .box [.i 0, .v (.slice none 0 0)]), (6, q0p2 g ot pl (q0z5 (idxs g.nd pl g.nd.length) g.w.length g.nd.length j) (List.replicate g.nd.length 0)), (42, intsO (idxs g.nd pl g.nd.length))]) (fun j => j <= (idxs g.nd pl g.nd.length).length) (fun j => (idxs g.nd pl g.nd.length).length - j) 0 (Weak.o _ _ [some 2, some 3, some 5, some 6, some 42] ?_ ?_) (by omega) fun j hj R hn hr he => ?_
 ·simp -implicitDefEqProofs only [wR', Nat.reduceBEq, Nat.reduceEqDiff, ↓reduceIte, nodes, q0k7]
 ·refine ⟨⟨_, rfl, .refl _⟩, rfl, ⟨_, rfl, .refl _⟩, rfl, ⟨_, rfl, .refl _⟩, rfl, ⟨_, rfl, ?_⟩, rfl, ⟨_, rfl, .refl _⟩, rfl, trivial⟩
  have e : T.arr 1 (List.replicate g.nd.length (T.v (Value.int IntKind.i64 0))) = intsO (List.replicate g.nd.length 0) := by rw [intsO, List.map_replicate]
  rw [e]; exact .refl _
 ·rcases Nat.lt_or_ge j (idxs g.nd pl g.nd.length).length with h9 | h9
  ·obtain ⟨y, hy⟩ : ∃ y, (idxs g.nd pl g.nd.length)[j]? = some y := ⟨_, List.getElem?_eq_getElem h9⟩
   obtain ⟨n, rfl, hn1⟩ := q0e9 hy
   have hjm := hmul j (by omega)
   simp -implicitDefEqProofs only [eR', go_sem, q0p2, nodes, hy, intsO, decide_eq_true (show (j : Int) < ((idxs g.nd pl g.nd.length).length : Int) by omega), hfl]
   refine ⟨by omega, by omega, by omega, by omega, by omega, by omega, hn _ (j + 1) (Weak.trans (Weak.join2 Tryz.prog q0wk (sl 49) (sl 50) rfl rfl rfl rfl (by decide) (by simp)) (Weak.o _ _ [some 2, some 3, some 5, some 6, some 42] ?_ ?_)) (by omega) (by omega)⟩
   ·simp -implicitDefEqProofs only [wR', Nat.reduceBEq, Nat.reduceEqDiff, ↓reduceIte, nodes, q0lb h9 (by omega)]
   ·refine ⟨⟨_, rfl, .refl _⟩, rfl, ⟨_, rfl, .refl _⟩, rfl, ⟨_, rfl, .refl _⟩, rfl, ⟨_, rfl, ?_⟩, rfl, ⟨_, rfl, .refl _⟩, rfl, trivial⟩
    rw [hfs _ _ _ hy, q0p2, intsO, List.map_set, wrap64 (n := (j : Int) * (g.w.length : Int)) (by omega) (by omega), ← Int.natCast_mul]; exact .refl _
  ·simp -implicitDefEqProofs only [eR', go_sem, q0p2, nodes, intsO, decide_eq_false (show ¬ (j : Int) < ((idxs g.nd pl g.nd.length).length : Int) by omega)]
   refine he _ _ ?_
   simp -implicitDefEqProofs only [eR', go_sem]
   rw [show j = (idxs g.nd pl g.nd.length).length by omega, ← hoL]
   clear hn hr he R
   refine q006.res (q0et g.nd (1 - pl) (by omega)) [] rfl Tryz.call72 ?_ (.inl rfl) ?_
   ·simp -implicitDefEqProofs only [aR', go_sem]
   simp -implicitDefEqProofs only [cR', go_sem, intsO]
   refine SemC.loopR (σ := Nat) (fun j => St.of [(2, .own 2), (3, .own 3), (5, .own 5), (6, .own 6), (7, .t (.i g.w.length)), (61, .own 61), (62, .t (.i (idxs g.nd (1 - pl) g.nd.length).length)), (63, .t (.i j))] [(2, .box [nodes g.nd, rows g.w, rows g.v]), (3, .box [.i (1 - pl), rows ot]), (5, .box [.i 0, .v (.slice none 0 0)]), (6, q0p2 g ot pl (ownL g pl) (q0z5 (idxs g.nd (1 - pl) g.nd.length) g.w.length g.nd.length j)), (61, intsO (idxs g.nd (1 - pl) g.nd.length))]) (fun j => j <= (idxs g.nd (1 - pl) g.nd.length).length) (fun j => (idxs g.nd (1 - pl) g.nd.length).length - j) 0 (Weak.o _ _ [some 2, some 3, some 5, some 6, some 61] ?_ ?_) (by omega) fun j hj R hn hr he => ?_
   ·simp -implicitDefEqProofs only [wR', Nat.reduceBEq, Nat.reduceEqDiff, ↓reduceIte, nodes, q0k7]
   ·refine ⟨⟨_, rfl, .refl _⟩, rfl, ⟨_, rfl, .refl _⟩, rfl, ⟨_, rfl, .refl _⟩, rfl, ⟨_, rfl, .refl _⟩, rfl, ⟨_, rfl, .refl _⟩, rfl, trivial⟩
   ·have hol := q10z g pl
    rcases Nat.lt_or_ge j (idxs g.nd (1 - pl) g.nd.length).length with h9 | h9
    ·obtain ⟨y, hy⟩ : ∃ y, (idxs g.nd (1 - pl) g.nd.length)[j]? = some y := ⟨_, List.getElem?_eq_getElem h9⟩
     obtain ⟨n, rfl, hn1⟩ := q0e9 hy
     have hjm := hmul j (by omega)
     simp -implicitDefEqProofs only [eR', go_sem, q0p2, nodes, hy, intsO, decide_eq_true (show (j : Int) < ((idxs g.nd (1 - pl) g.nd.length).length : Int) by omega), hfl]
     refine ⟨by omega, by omega, by omega, by omega, by omega, by omega, hn _ (j + 1) (Weak.trans (Weak.join2 Tryz.prog q0wk (sl 68) (sl 69) rfl rfl rfl rfl (by decide) (by simp)) (Weak.o _ _ [some 2, some 3, some 5, some 6, some 61] ?_ ?_)) (by omega) (by omega)⟩
     ·simp -implicitDefEqProofs only [wR', Nat.reduceBEq, Nat.reduceEqDiff, ↓reduceIte, nodes, q0lb h9 (by omega)]
     ·refine ⟨⟨_, rfl, .refl _⟩, rfl, ⟨_, rfl, .refl _⟩, rfl, ⟨_, rfl, .refl _⟩, rfl, ⟨_, rfl, ?_⟩, rfl, ⟨_, rfl, .refl _⟩, rfl, trivial⟩
      rw [hfs _ _ _ hy, q0p2, intsO, intsO, List.map_set, wrap64 (n := (j : Int) * (g.w.length : Int)) (by omega) (by omega), ← Int.natCast_mul]; exact .refl _
    ·simp -implicitDefEqProofs only [eR', go_sem, q0p2, nodes, intsO, decide_eq_false (show ¬ (j : Int) < ((idxs g.nd (1 - pl) g.nd.length).length : Int) by omega)]
     refine he _ _ ?_
     simp -implicitDefEqProofs only [eR', go_sem]
     rw [show j = (idxs g.nd (1 - pl) g.nd.length).length by omega, ← hoL]
     clear hn hr he R
     have hm1 := hmul (idxs g.nd pl g.nd.length).length (by omega)
     have hm2 : (g.w.length : Int) * ((idxs g.nd pl g.nd.length).length : Int) = ((sets g pl).length : Nat) := by rw [hsl2, Int.natCast_mul, Int.mul_comm]
     refine q000.res (q0et g.nd pl (by omega)) [] rfl Tryz.call72 (fun e R' hR => ?_) (.inl rfl) ?_
     ·simp -implicitDefEqProofs only [aR', go_sem]
     simp -implicitDefEqProofs only [cR', go_sem, intsO, q0jc, hm2, wrap64 (n := ((sets g pl).length : Int)) (by omega) (by omega)]
     refine ⟨by omega, by omega, ?_⟩
     refine SemC.loopR (σ := Nat) (fun k => St.of [(2, .own 2), (5, .own 5), (6, .own 6), (7, .t (.i g.w.length)), (12, .t (.i (runV g ot pl k))), (89, .t (.i g.w.length)), (90, .t (.i k))] [(2, .box [nodes g.nd, rows g.w, rows g.v]), (5, .box [.i 0, .v (.slice none 0 0)]), (6, q0p3 g ot pl (runB g ot pl k))]) (fun k => k <= g.w.length) (fun k => g.w.length - k) 0 (Weak.trans (Weak.open 6 5 500 rfl rfl rfl (by decide) rfl) (Weak.trans (Weak.shareJoin 6 5 500 rfl rfl (by decide) rfl (by simp)) (Weak.trans (Weak.open 6 6 501 rfl rfl rfl (by decide) rfl) (Weak.trans (Weak.shareJoin 6 6 501 rfl rfl (by decide) rfl (by simp)) (Weak.o _ _ [some 2, some 5, some 6] ?_ ?_))))) (by omega) fun k hk R hn hr he => ?_
     ·simp -implicitDefEqProofs only [wR', Nat.reduceBEq, Nat.reduceEqDiff, ↓reduceIte, nodes, q0k7, runV, List.range_zero, List.map_nil, sumI, q0rg]
     ·refine ⟨⟨_, rfl, .refl _⟩, rfl, ⟨_, rfl, .refl _⟩, rfl, ⟨_, rfl, ?_⟩, rfl, trivial⟩
      have e1 : (T.arr 1 (List.map T.i (ownL g pl))).toSh = ints (ownL g pl) := q0fi _
      have e2 : (T.arr 1 (List.map T.i (ownL g (1 - pl)))).toSh = ints (ownL g (1 - pl)) := q0fi _
      rw [e1, e2]
      exact .bc (.refl _) (.bc (.refl _) (.bc (.refl _) (.bc (.refl _) (.bc (.any _) (.bc (.refl _) (.bc (.refl _) (.bc (.refl _) (.bc (.refl _) (.bc (Le.nilRows _) (.refl _))))))))))
     ·rcases Nat.lt_or_ge k g.w.length with h9 | h9
      ·simp -implicitDefEqProofs only [eR', go_sem, q0p3, nodes, q0jc, decide_eq_true (show (k : Int) < (g.w.length : Int) by omega)]
       refine ⟨by omega, by omega, ?_⟩
       have hrl := q0p6 g pl k
       refine SemC.loopR (σ := Nat) (fun b => St.of [(2, .own 2), (5, .own 5), (6, .own 6), (7, .t (.i g.w.length)), (12, .t (.i (runV g ot pl k))), (13, .t (.i k)), (14, .own 77), (89, .t (.i g.w.length)), (90, .t (.i k)), (97, .own 77), (98, .t (.i g.w.length)), (99, .t (.i b))] [(2, .box [nodes g.nd, rows g.w, rows g.v]), (5, .box [.i 0, .v (.slice none 0 0)]), (6, rbox g ot pl k (runB g ot pl k)), (77, .arr 1 (filled (q0p4 g pl k) T.i (.i 0) b))]) (fun b => b <= g.w.length) (fun b => g.w.length - b) 0 (Weak.o _ _ [some 2, some 5, some 6, some 96] ?_ ?_) (by omega) fun b hb R2 hn2 hr2 he2 => ?_
       ·simp -implicitDefEqProofs only [wR', Nat.reduceBEq, Nat.reduceEqDiff, ↓reduceIte, nodes, rbox, List.length_replicate]
       ·refine ⟨⟨_, rfl, .refl _⟩, rfl, ⟨_, rfl, .refl _⟩, rfl, ⟨_, rfl, .refl _⟩, rfl, ⟨_, rfl, ?_⟩, rfl, trivial⟩
        rw [q097, hrl]; exact .refl _
       ·have hfl := q095 (q0p4 g pl k) T.i (.i 0) b (by omega)
        rcases Nat.lt_or_ge b g.w.length with h8 | h8
        ·obtain ⟨u, v, r, y, d1, d2, d3, d4, d5, d6, d7⟩ := q07t hg hpl h9 h8
         have fin : ∀ S, Weak 139 S (St.of [(2, .own 2), (5, .own 5), (6, .own 6), (7, .t (.i g.w.length)), (12, .t (.i (runV g ot pl k))), (13, .t (.i k)), (14, .own 77), (89, .t (.i g.w.length)), (90, .t (.i k)), (97, .own 77), (98, .t (.i g.w.length)), (99, .t (.i (b + 1 : Nat)))] [(2, .box [nodes g.nd, rows g.w, rows g.v]), (5, .box [.i 0, .v (.slice none 0 0)]), (6, rbox g ot pl k (runB g ot pl k)), (77, .arr 1 (filled (q0p4 g pl k) T.i (.i 0) (b + 1)))]) -> R2 .normal S := fun S h => hn2 S (b + 1) h (by omega) (by omega)
         rw [← q096 d5] at fin
         clear hn2
         rcases hpl with rfl | rfl
         ·have d1 : k = u := by have e : (k : Int) = (u : Int) := d1; omega
          have d2 : b = v := by have e : (b : Int) = (v : Int) := d2; omega
          subst d1 d2
          simp -implicitDefEqProofs only [eR', go_sem, rbox, nodes, d3, d4, hfl, decide_eq_true (show (b : Int) < (g.w.length : Int) by omega)]
          refine ⟨fun _ => ⟨by omega, by omega, by omega, by omega, by omega, by omega, by omega, by omega, by omega, ?_⟩, fun h => absurd h (by decide)⟩
          ·refine fin _ (Weak.o _ _ [some 2, some 5, some 6, some 77] ?_ ?_)
           ·simp -implicitDefEqProofs only [wR', Nat.reduceBEq, Nat.reduceEqDiff, ↓reduceIte, rbox, nodes, q0lb h8 (by omega)]
           ·exact ⟨⟨_, rfl, .refl _⟩, rfl, ⟨_, rfl, .refl _⟩, rfl, ⟨_, rfl, .refl _⟩, rfl, ⟨_, rfl, .refl _⟩, rfl, trivial⟩
         ·have d1 : b = u := by have e : (b : Int) = (u : Int) := d1; omega
          have d2 : k = v := by have e : (k : Int) = (v : Int) := d2; omega
          subst d1 d2
          simp -implicitDefEqProofs only [eR', go_sem, rbox, nodes, d3, d4, hfl, decide_eq_true (show (b : Int) < (g.w.length : Int) by omega)]
          refine ⟨fun h => absurd h (by decide), fun _ => ⟨by omega, by omega, by omega, by omega, by omega, by omega, by omega, by omega, by omega, ?_⟩⟩
          ·refine fin _ (Weak.o _ _ [some 2, some 5, some 6, some 77] ?_ ?_)
           ·simp -implicitDefEqProofs only [wR', Nat.reduceBEq, Nat.reduceEqDiff, ↓reduceIte, rbox, nodes, q0lb h8 (by omega)]
           ·exact ⟨⟨_, rfl, .refl _⟩, rfl, ⟨_, rfl, .refl _⟩, rfl, ⟨_, rfl, .refl _⟩, rfl, ⟨_, rfl, .refl _⟩, rfl, trivial⟩
        ·simp -implicitDefEqProofs only [eR', go_sem, rbox, nodes, decide_eq_false (show ¬ (b : Int) < (g.w.length : Int) by omega)]
         refine he2 _ _ ?_
         simp -implicitDefEqProofs only [eR', go_sem, rbox, nodes]
         rw [show b = (q0p4 g pl k).length by omega, q093]
         refine ⟨_, Weak.trans (Weak.share 77 rfl) (Weak.o [(2, .own 2), (5, .own 5), (6, .own 6), (7, .t (.i g.w.length)), (12, .t (.i (runV g ot pl k))), (13, .t (.i k)), (14, .t (ints (q0p4 g pl k))), (89, .t (.i g.w.length)), (90, .t (.i k))] [(2, .box [nodes g.nd, rows g.w, rows g.v]), (5, .box [.i 0, .v (.slice none 0 0)]), (6, rbox g ot pl k (runB g ot pl k))] [some 2, some 5, some 6] ?_ ?_), ?_⟩
         ·simp -implicitDefEqProofs only [wR', Nat.reduceBEq, Nat.reduceEqDiff, ↓reduceIte, q0rg, rbox, nodes, T.toSh, T.toShL_eq_map, List.map_map]
          exact .inr (.inl rfl)
         ·exact ⟨⟨_, rfl, .refl _⟩, rfl, ⟨_, rfl, .refl _⟩, rfl, ⟨_, rfl, .refl _⟩, rfl, trivial⟩
         ·simp -implicitDefEqProofs only [eR', go_sem, rbox, nodes]
          refine q006.p (q080 (q0ek t2 (by omega) g.nd.length 0 (by omega) (by omega) (by omega))) [] rfl Tryz.call57 ?_ ?_
          ·simp -implicitDefEqProofs only [aR', go_sem]
          simp -implicitDefEqProofs only [eR', go_sem]
          rw [u2]
          have hc := cap0 hg pl k
          have hcall := q0ey hg hpl hot h9 g.nd.length 0 (q0p4 g pl k) (dpt g) (runB g ot pl k) (by omega) (by omega) hrl hc.2 (by rw [q0z1]; exact Int.le_refl _) u3 hc.1 (q0qh t2 ot pl k)
          rw [← q0qi] at hcall
          simp only [rbox, nodes, rows, ints] at hcall
          have hv1 := q0qj hg hpl hot k
          have hv2 := q0qj hg hpl hot (k + 1)
          have hcv : capV = 4199040000000 := rfl
          have hk6 : ((k + 1 : Nat) : Int) * capV <= 6 * capV := Int.mul_le_mul_of_nonneg_right (by omega) (by decide)
          rw [q0qk] at hv2
          refine q006.ref hcall [6] [] rfl Tryz.call73 (by simp) ?_ (by simp) ?_ (.inl rfl) ?_
          ·simp -implicitDefEqProofs only [sR', Nat.reduceEqDiff, ↓reduceIte]
          ·simp -implicitDefEqProofs only [aR', go_sem]
          simp -implicitDefEqProofs only [cR', go_sem]
          refine hn _ (k + 1) (Weak.o _ _ [some 2, some 5, some 6] ?_ ?_) (by omega) (by omega)
          ·simp -implicitDefEqProofs only [wR', Nat.reduceBEq, Nat.reduceEqDiff, ↓reduceIte, q0p3, nodes, q0lb h9 (by omega), wrap64 (n := runV g ot pl k + q01z g ot pl k g.nd.length 0 (q0p4 g pl k) (dpt g)) (by omega) (by omega), q0qk]
          ·refine ⟨⟨_, rfl, .refl _⟩, rfl, ⟨_, rfl, .refl _⟩, rfl, ⟨_, rfl, ?_⟩, rfl, trivial⟩
           exact .bc (.refl _) (.bc (.refl _) (.bc (.refl _) (.bc (.refl _) (.bc (.any _) (.refl _)))))
      ·simp -implicitDefEqProofs only [eR', go_sem, q0p3, nodes, decide_eq_false (show ¬ (k : Int) < (g.w.length : Int) by omega)]
       refine he _ _ ?_
       simp -implicitDefEqProofs only [eR', go_sem]
       refine ⟨_, Weak.open 6 9 500 rfl rfl rfl (by decide) rfl, ?_⟩
       simp -implicitDefEqProofs only [eR', go_sem, List.lookup_cons, beq_self_eq_true, Nat.reduceBEq]
       rw [show k = g.w.length by omega]; rfl
end

theorem q0tr {g : Gm} {s : Int × List (List Int)} (h : strB g s = true) : q0fl g = true /\ (s.1 = 0 ∨ s.1 = 1) /\ q0ft g s.1 s.2 = true := by
 simp only [strB, Bool.and_eq_true, decide_eq_true_eq] at h
 exact ⟨h.1.1, by omega, h.2⟩
theorem q0ts {g : Gm} {s : Int × List (List Int)} (h : strB g s = true) : q0fl g = true /\ (1 - s.1 = 0 ∨ 1 - s.1 = 1) /\ q0nw g s.2 (1 - (1 - s.1)) /\ (1 - (1 - s.1), s.2) = s := by
 obtain ⟨h1, h2, h3⟩ := q0tr h
 refine ⟨h1, by omega, ?_, ?_⟩
 ·rw [show 1 - (1 - s.1) = s.1 by omega]; exact q0nx h3
 ·rw [show 1 - (1 - s.1) = s.1 by omega]
theorem q0t2 {g : Gm} {s : Int × List (List Int)} (h : strB g s = true) : Fun Tryz.prog 74 [] [.t (.agg [.sh 5 (chunk q0lu g.nd), .sh 1 (g.w.map ints), .sh 1 (g.v.map ints)]), .t (.agg [.i s.1, .sh 1 (s.2.map ints)])] fun o r => o = [] /\ r = runT g s.2 (1 - s.1) := by
 obtain ⟨h1, h2, h3, h4⟩ := q0ts h
 have := q0sq h1 h2 h3
 rw [h4] at this
 exact this
theorem q0ez {g : Gm} {s : Int × List (List Int)} (h : strB g s = true) : Fun Tryz.prog 40 [] [.t (.agg [.sh 5 (chunk q0lu g.nd), .sh 1 (g.w.map ints), .sh 1 (g.v.map ints)]), .t (.agg [.i s.1, .sh 1 (s.2.map ints)])] fun o r => o = [] /\ r = runT g s.2 (1 - s.1) := by
 obtain ⟨h1, h2, h3, h4⟩ := q0ts h
 have := q0ei h1 h2 h3
 rw [h4] at this
 exact this
def q01x (g : Gm) (s : Int × List (List Int)) : Int := runV g s.2 (1 - s.1) g.w.length
theorem q01y {g : Gm} {s : Int × List (List Int)} (h : strB g s = true) : -25194240000000 <= q01x g s /\ q01x g s <= 25194240000000 := by
 obtain ⟨h1, h2, h3, h4⟩ := q0ts h
 obtain ⟨_, hk, _⟩ := q0fo h1
 have hv := q0qj h1 h2 h3 g.w.length
 have hcv : capV = 4199040000000 := rfl
 have hk6 : ((g.w.length : Nat) : Int) * capV <= 6 * capV := Int.mul_le_mul_of_nonneg_right (by omega) (by decide)
 unfold q01x
 omega
def q0nn (g : Gm) (s t : Int × List (List Int)) : Bool := strB g s && strB g t && decide (s.1 = 0) && decide (t.1 = 1)
theorem q0np {g : Gm} {s t : Int × List (List Int)} (h : q0nn g s t = true) : strB g s = true /\ strB g t = true /\ s.1 = 0 /\ t.1 = 1 := by
 simp only [q0nn, Bool.and_eq_true, decide_eq_true_eq] at h
 exact ⟨h.1.1.1, h.1.1.2, h.1.2, h.2⟩
theorem q0no {g : Gm} {s t : Int × List (List Int)} : q0nn g s t = true ↔ q0fl g = true /\ s.1 = 0 /\ t.1 = 1 /\ q0ft g s.1 s.2 = true /\ q0ft g t.1 t.2 = true := by
 simp only [q0nn, strB, Bool.and_eq_true, decide_eq_true_eq]
 constructor
 ·rintro ⟨⟨⟨⟨⟨h1, h2⟩, h3⟩, ⟨_, h4⟩, h5⟩, h6⟩, h7⟩
  exact ⟨h1, h6, h7, h3, h5⟩
 ·rintro ⟨h1, h2, h3, h4, h5⟩
  exact ⟨⟨⟨⟨⟨h1, by omega⟩, h4⟩, ⟨h1, by omega⟩, h5⟩, h2⟩, h3⟩
theorem q24k {g : Gm} {s t : Int × List (List Int)} (h : ¬ (q0fl g = true /\ s.1 = 0 /\ t.1 = 1 /\ q0ft g s.1 s.2 = true /\ q0ft g t.1 t.2 = true)) : q0nn g s t = false := by
 cases hp : q0nn g s t with
 | false => rfl
 | true => exact (h (q0no.1 hp)).elim
section
attribute [-go_sem] q0i5 q0id fldC lenC idxC q0ip q0lp
theorem q17l {f : FuncId} {g : Gm} {s : Int × List (List Int)} {b : Bool} (h : Pure Tryz.prog f [q0ck g, q0tu s] (.b b)) : Pure Tryz.prog f [.agg [.sh 5 (chunk q0lu g.nd), .sh 1 (g.w.map ints), .sh 1 (g.v.map ints)], .agg [.i s.1, .sh 1 (s.2.map ints)]] (.b b) := h
theorem q26a {f : FuncId} {g : Gm} {n : Int} (h : Pure Tryz.prog f [q0ck g] (.i n)) : Pure Tryz.prog f [.agg [.sh 5 (chunk q0lu g.nd), .sh 1 (g.w.map ints), .sh 1 (g.v.map ints)]] (.i n) := h
theorem q25d (g : Gm) (s t : Int × List (List Int)) (hg : q0cf g) (hs : q0q9 s.2) (ht : q0q9 t.2) : Pure Tryz.prog 42 [q0ck g, q0tu s, q0tu t] (.b (q0nn g s t)) := by
 refine q23g (by simp) ?_
 have h1 := q17l (q252 g s hg hs)
 have h2 := q17l (q252 g t hg ht)
 have hdef : q0nn g s t = (strB g s && strB g t && decide (s.1 = 0) && decide (t.1 = 1)) := rfl
 simp -implicitDefEqProofs only [eR', go_sem, q222, q0ck, q0tu, nodes]
 cases hb1 : strB g s <;> rw [hb1] at h1
 ·refine q006.p h1 [] rfl Tryz.call58 ?_ ?_
  ·simp -implicitDefEqProofs only [aR', go_sem]
  simp -implicitDefEqProofs only [eR', go_sem]
  rw [hdef, hb1]; rfl
 ·refine q006.p h1 [] rfl Tryz.call58 ?_ ?_
  ·simp -implicitDefEqProofs only [aR', go_sem]
  simp -implicitDefEqProofs only [eR', go_sem]
  cases hb2 : strB g t <;> rw [hb2] at h2
  ·refine q006.p h2 [] rfl Tryz.call58 ?_ ?_
   ·simp -implicitDefEqProofs only [aR', go_sem]
   simp -implicitDefEqProofs only [eR', go_sem]
   rw [hdef, hb1, hb2]; rfl
  ·refine q006.p h2 [] rfl Tryz.call58 ?_ ?_
   ·simp -implicitDefEqProofs only [aR', go_sem]
   simp -implicitDefEqProofs only [eR', go_sem]
   refine ⟨fun h3 => ?_, fun h3 => ?_⟩
   ·have h3 : s.1 = 0 := by simpa using h3
    rw [hdef, hb1, hb2, decide_eq_true h3]
    congr 2
   ·have h3 : ¬ s.1 = 0 := by simpa using h3
    rw [hdef, hb1, hb2, decide_eq_false h3]; rfl
theorem q23p (g : Gm) (s t : Int × List (List Int)) (hg : q0cf g) (hs : q0q9 s.2) (ht : q0q9 t.2) : Pure Tryz.prog 17 [q0ck g, q0tu s, q0tu t] (.b (q0nn g s t)) := by
 refine q22s (by simp) ?_
 have h1 := q0fq (q0ee g hg)
 simp -implicitDefEqProofs only [eR', go_sem, q21e, q0ck, q0tu, nodes]
 cases hb1 : q0fl g <;> rw [hb1] at h1
 ·refine q006.p h1 [] rfl Tryz.call23 ?_ ?_
  ·simp -implicitDefEqProofs only [aR', go_sem]
  simp -implicitDefEqProofs only [eR', go_sem]
  rw [q24k fun h => by rw [hb1] at h; exact absurd h.1 (by simp)]
 ·have h2 := q17l (q17g g s hb1 hs)
  have h3 := q17l (q17g g t hb1 ht)
  refine q006.p h1 [] rfl Tryz.call23 ?_ ?_
  ·simp -implicitDefEqProofs only [aR', go_sem]
  simp -implicitDefEqProofs only [eR', go_sem]
  refine ⟨fun h4 => ⟨fun h5 => ?_, fun h5 => ?_⟩, fun h4 => ?_⟩
  ·have h4 : s.1 = 0 := by simpa using h4
   have h5 : t.1 = 1 := by simpa using h5
   cases hb2 : q0ft g s.1 s.2 <;> rw [hb2] at h2
   ·refine q006.p h2 [] rfl Tryz.call39 ?_ ?_
    ·simp -implicitDefEqProofs only [aR', go_sem]
    simp -implicitDefEqProofs only [eR', go_sem]
    rw [q24k fun h => by rw [hb2] at h; exact absurd h.2.2.2.1 (by simp)]
   ·refine q006.p h2 [] rfl Tryz.call39 ?_ ?_
    ·simp -implicitDefEqProofs only [aR', go_sem]
    simp -implicitDefEqProofs only [eR', go_sem]
    cases hb3 : q0ft g t.1 t.2 <;> rw [hb3] at h3
    ·refine q006.p h3 [] rfl Tryz.call39 ?_ ?_
     ·simp -implicitDefEqProofs only [aR', go_sem]
     simp -implicitDefEqProofs only [eR', go_sem]
     rw [q24k fun h => by rw [hb3] at h; exact absurd h.2.2.2.2 (by simp)]
    ·refine q006.p h3 [] rfl Tryz.call39 ?_ ?_
     ·simp -implicitDefEqProofs only [aR', go_sem]
     simp -implicitDefEqProofs only [eR', go_sem]
     rw [q0no.2 ⟨hb1, h4, h5, hb2, hb3⟩]
  ·have h5 : ¬ t.1 = 1 := by simpa using h5
   rw [q24k fun h => h5 h.2.2.1]
  ·have h4 : ¬ s.1 = 0 := by simpa using h4
   rw [q24k fun h => h4 h.2.1]
theorem q24l {f : FuncId} {g : Gm} {s t : Int × List (List Int)} {b : Bool} (h : Pure Tryz.prog f [q0ck g, q0tu s, q0tu t] (.b b)) : Pure Tryz.prog f [.agg [.sh 5 (chunk q0lu g.nd), .sh 1 (g.w.map ints), .sh 1 (g.v.map ints)], .agg [.i s.1, .sh 1 (s.2.map ints)], .agg [.i t.1, .sh 1 (t.2.map ints)]] (.b b) := h
theorem q0so (g : Gm) (s t : Int × List (List Int)) (h : q0nn g s t = true) : Pure Tryz.prog 43 [q0ck g, q0tu s, q0tu t] (.tup [.i (q01x g t), .i (q01x g s)]) := by
 obtain ⟨h1, h2, _⟩ := q0np h
 refine q0c2 (by simp) ?_
 simp -implicitDefEqProofs only [eR', go_sem, q054, q0ck, q0tu, nodes]
 refine q006.res (q0t2 h2) [] rfl Tryz.call74 ?_ (.inl rfl) ?_
 ·simp -implicitDefEqProofs only [aR', go_sem]
 simp -implicitDefEqProofs only [cR', go_sem, runT, q0qa]
 refine q006.res (q0t2 h1) [] rfl Tryz.call74 ?_ (.inl rfl) ?_
 ·simp -implicitDefEqProofs only [aR', go_sem]
 simp -implicitDefEqProofs only [cR', go_sem, runT, q0qa]
 rfl
theorem q0f6 (g : Gm) (s t : Int × List (List Int)) (h : q0nn g s t = true) : Pure Tryz.prog 18 [q0ck g, q0tu s, q0tu t] (.tup [.i (-q01x g s), .i (q01x g t)]) := by
 obtain ⟨h1, h2, _⟩ := q0np h
 have b1 := q01y h1
 refine q0as (by simp) ?_
 simp -implicitDefEqProofs only [eR', go_sem, q03u, q0ck, q0tu, nodes]
 refine q006.res (q0ez h1) [] rfl Tryz.call40 ?_ (.inl rfl) ?_
 ·simp -implicitDefEqProofs only [aR', go_sem]
 simp -implicitDefEqProofs only [cR', go_sem, runT, q0qa]
 refine q006.res (q0ez h2) [] rfl Tryz.call40 ?_ (.inl rfl) ?_
 ·simp -implicitDefEqProofs only [aR', go_sem]
 simp -implicitDefEqProofs only [cR', go_sem, runT, q0qa]
 rw [show 0 - runV g s.2 (1 - s.1) g.w.length = -q01x g s by unfold q01x; omega, wrap64 (n := -q01x g s) (by omega) (by omega)]; rfl
theorem vb_t {f : FuncId} {g : Gm} {s t : Int × List (List Int)} {r : T} (h : Pure Tryz.prog f [q0ck g, q0tu s, q0tu t] r) : Pure Tryz.prog f [.agg [.sh 5 (chunk q0lu g.nd), .sh 1 (g.w.map ints), .sh 1 (g.v.map ints)], .agg [.i s.1, .sh 1 (s.2.map ints)], .agg [.i t.1, .sh 1 (t.2.map ints)]] r := h
def vbR (g : Gm) (s t : Int × List (List Int)) : Int × Int × Int × Int := if q0nn g s t = true then (-q01x g s, q01x g t, unit g, 0) else (0, 0, 0, 1)
def tr4 (r : Int × Int × Int × Int) : T := .tup [.i r.1, .i r.2.1, .i r.2.2.1, .i r.2.2.2]
theorem q255 (g : Gm) (s t : Int × List (List Int)) (hg : q0cf g) (hs : q0q9 s.2) (ht : q0q9 t.2) : Pure Tryz.prog 20 [q0ck g, q0tu s, q0tu t] (tr4 (vbR g s t)) := by
 refine q238 (by simp) ?_
 have h1 := q24l (q25d g s t hg hs ht)
 simp -implicitDefEqProofs only [eR', go_sem, q21u, q0ck, q0tu, nodes]
 cases hb : q0nn g s t <;> rw [hb] at h1
 ·refine q006.p h1 [] rfl Tryz.call42 ?_ ?_
  ·simp -implicitDefEqProofs only [aR', go_sem]
  simp -implicitDefEqProofs only [eR', go_sem]
  rw [vbR, hb]; rfl
 ·have b1 := q01y (q0np hb).1
  refine q006.p h1 [] rfl Tryz.call42 ?_ ?_
  ·simp -implicitDefEqProofs only [aR', go_sem]
  simp -implicitDefEqProofs only [eR', go_sem]
  refine q006.p (vb_t (q0so g s t hb)) [] rfl Tryz.call43 ?_ ?_
  ·simp -implicitDefEqProofs only [aR', go_sem]
  simp -implicitDefEqProofs only [eR', go_sem]
  refine q006.p (q26a (q25e g (q0no.1 hb).1)) [] rfl Tryz.call32 ?_ ?_
  ·simp -implicitDefEqProofs only [aR', go_sem]
  simp -implicitDefEqProofs only [eR', go_sem]
  rw [vbR, hb, show 0 - q01x g s = -q01x g s by omega, wrap64 (n := -q01x g s) (by omega) (by omega)]; rfl
def prB (g : Gm) (c : Cl) : Bool := q0nn g c.f c.s && decide (-1000000000000000 <= c.lo) && decide (c.lo <= -q01x g c.f) && decide (q01x g c.s <= c.hi) && decide (c.hi <= 1000000000000000)
theorem q24o {g : Gm} {c : Cl} : prB g c = true ↔ q0nn g c.f c.s = true /\ -1000000000000000 <= c.lo /\ c.lo <= -q01x g c.f /\ q01x g c.s <= c.hi /\ c.hi <= 1000000000000000 := by
 simp only [prB, Bool.and_eq_true, decide_eq_true_eq]
 constructor
 ·rintro ⟨⟨⟨⟨h1, h2⟩, h3⟩, h4⟩, h5⟩; exact ⟨h1, h2, h3, h4, h5⟩
 ·rintro ⟨h1, h2, h3, h4, h5⟩; exact ⟨⟨⟨⟨h1, h2⟩, h3⟩, h4⟩, h5⟩
theorem q24p {g : Gm} {c : Cl} (h : ¬ (q0nn g c.f c.s = true /\ -1000000000000000 <= c.lo /\ c.lo <= -q01x g c.f /\ q01x g c.s <= c.hi /\ c.hi <= 1000000000000000)) : prB g c = false := by
 cases hp : prB g c with
 | false => rfl
 | true => exact (h (q24o.1 hp)).elim
theorem q251 (g : Gm) (c : Cl) (hg : q0cf g) (hf : q0q9 c.f.2) (hs : q0q9 c.s.2) : Pure Tryz.prog 14 [q0ck g, q06g c] (.b (prB g c)) := by
 refine q234 (by simp) ?_
 have h1 := vb_t (q255 g c.f c.s hg hf hs)
 simp -implicitDefEqProofs only [eR', go_sem, q21q, q0ck, q06g, nodes]
 cases hb : q0nn g c.f c.s
 ·rw [vbR, hb] at h1
  simp only [tr4, Bool.false_eq_true, if_false] at h1
  refine q006.p h1 [] rfl Tryz.call20 ?_ ?_
  ·simp -implicitDefEqProofs only [aR', go_sem]
  simp -implicitDefEqProofs only [eR', go_sem]
  rw [q24p fun h => by rw [hb] at h; exact absurd h.1 (by simp)]
  exact ⟨fun h => absurd h (by decide), fun _ => rfl⟩
 ·rw [vbR, hb] at h1
  simp only [tr4, if_true] at h1
  refine q006.p h1 [] rfl Tryz.call20 ?_ ?_
  ·simp -implicitDefEqProofs only [aR', go_sem]
  simp -implicitDefEqProofs only [eR', go_sem]
  refine ⟨fun _ => ⟨fun a1 => ⟨fun a2 => ⟨fun a3 => ?_, fun a3 => ?_⟩, fun a2 => ?_⟩, fun a1 => ?_⟩, fun h => absurd h (by decide)⟩
  ·by_cases a4 : c.hi <= 1000000000000000
   ·rw [decide_eq_true a4, q24o.2 ⟨hb, a1, a2, a3, a4⟩]
   ·rw [decide_eq_false a4, q24p fun h => a4 h.2.2.2.2]
  ·rw [q24p fun h => a3 h.2.2.2.1]
  ·rw [q24p fun h => a2 h.2.2.1]
  ·rw [q24p fun h => a1 h.2.1]
theorem q23t (g : Gm) (c : Cl) (hg : q0cf g) (hf : q0q9 c.f.2) (hs : q0q9 c.s.2) : Pure Tryz.prog 24 [q0ck g, q06g c] (.b (prB g c)) := by
 refine q22v (by simp) ?_
 have h1 := q24l (q23p g c.f c.s hg hf hs)
 simp -implicitDefEqProofs only [eR', go_sem, q21h, q0ck, q06g, nodes]
 cases hb : q0nn g c.f c.s <;> rw [hb] at h1
 ·refine q006.p h1 [] rfl Tryz.call17 ?_ ?_
  ·simp -implicitDefEqProofs only [aR', go_sem]
  simp -implicitDefEqProofs only [eR', go_sem]
  rw [q24p fun h => by rw [hb] at h; exact absurd h.1 (by simp)]
 ·refine q006.p h1 [] rfl Tryz.call17 ?_ ?_
  ·simp -implicitDefEqProofs only [aR', go_sem]
  simp -implicitDefEqProofs only [eR', go_sem]
  have b1 := q01y (q0np hb).1
  have b2 := q01y (q0np hb).2.1
  have w1 := q0f9 c.lo (-1000000000000000) 1000000000000000
  have w2 := q0f9 c.hi (-1000000000000000) 1000000000000000
  cases hw1 : decide (-1000000000000000 <= c.lo /\ c.lo <= 1000000000000000) <;> rw [hw1] at w1
  ·refine q006.p w1 [] rfl Tryz.call47 ?_ ?_
   ·simp -implicitDefEqProofs only [aR', go_sem]
   simp -implicitDefEqProofs only [eR', go_sem]
   have hw1 := of_decide_eq_false hw1
   rw [q24p fun h => hw1 ⟨h.2.1, by have := h.2.2.1; omega⟩]
  ·refine q006.p w1 [] rfl Tryz.call47 ?_ ?_
   ·simp -implicitDefEqProofs only [aR', go_sem]
   simp -implicitDefEqProofs only [eR', go_sem]
   have hw1 := of_decide_eq_true hw1
   cases hw2 : decide (-1000000000000000 <= c.hi /\ c.hi <= 1000000000000000) <;> rw [hw2] at w2
   ·refine q006.p w2 [] rfl Tryz.call47 ?_ ?_
    ·simp -implicitDefEqProofs only [aR', go_sem]
    simp -implicitDefEqProofs only [eR', go_sem]
    have hw2 := of_decide_eq_false hw2
    rw [q24p fun h => hw2 ⟨by have := h.2.2.2.1; omega, h.2.2.2.2⟩]
   ·refine q006.p w2 [] rfl Tryz.call47 ?_ ?_
    ·simp -implicitDefEqProofs only [aR', go_sem]
    simp -implicitDefEqProofs only [eR', go_sem]
    have hw2 := of_decide_eq_true hw2
    refine q006.p (vb_t (q0f6 g c.f c.s hb)) [] rfl Tryz.call18 ?_ ?_
    ·simp -implicitDefEqProofs only [aR', go_sem]
    simp -implicitDefEqProofs only [eR', go_sem]
    refine ⟨fun a2 => ?_, fun a2 => ?_⟩
    ·by_cases a3 : c.hi ≥ q01x g c.s
     ·rw [decide_eq_true a3, q24o.2 ⟨hb, hw1.1, a2, a3, hw2.2⟩]
     ·rw [decide_eq_false a3, q24p fun h => a3 h.2.2.2.1]
    ·rw [q24p fun h => a2 h.2.2.1]
theorem q23m (g : Gm) (c : Cl) (hg : q0cf g) (hf : q0q9 c.f.2) (hs : q0q9 c.s.2) : Pure Tryz.prog 13 [q0ck g, q06g c] (.b (prB g c)) := by
 refine q22p (by simp) ?_
 have h1 := q0fq (q0ee g hg)
 have h2 := q23t g c hg hf hs
 simp only [q0ck, q06g, nodes, rows] at h2
 simp -implicitDefEqProofs only [eR', go_sem, q21b, q0ck, q06g, nodes]
 cases hb1 : q0fl g <;> rw [hb1] at h1
 ·refine q006.p h1 [] rfl Tryz.call23 ?_ ?_
  ·simp -implicitDefEqProofs only [aR', go_sem]
  simp -implicitDefEqProofs only [eR', go_sem]
  rw [q24p fun h => by have := (q0no.1 h.1).1; rw [hb1] at this; exact absurd this (by simp)]
 ·refine q006.p h1 [] rfl Tryz.call23 ?_ ?_
  ·simp -implicitDefEqProofs only [aR', go_sem]
  simp -implicitDefEqProofs only [eR', go_sem]
  refine q006.p h2 [] rfl Tryz.call24 ?_ ?_
  ·simp -implicitDefEqProofs only [aR', go_sem]
  simp -implicitDefEqProofs only [eR', go_sem]
def q22d (g : Gm) (c : Cl) : Int := if q0fl g = false then 1 else if prB g c = false then 5 else 0
theorem q25g (g : Gm) (c : Cl) (hg : q0cf g) (hf : q0q9 c.f.2) (hs : q0q9 c.s.2) : Pure Tryz.prog 28 [q0ck g, q06g c] (.i (q22d g c)) := by
 refine q23j (by simp) ?_
 have h1 := q0fq (q0s2 g hg)
 have h2 := q251 g c hg hf hs
 simp only [q0ck, q06g, nodes, rows] at h2
 simp -implicitDefEqProofs only [eR', go_sem, q225, q0ck, q06g, nodes]
 cases hb1 : q0fl g <;> rw [hb1] at h1
 ·refine q006.p h1 [] rfl Tryz.call35 ?_ ?_
  ·simp -implicitDefEqProofs only [aR', go_sem]
  simp -implicitDefEqProofs only [eR', go_sem]
  rw [q22d, hb1]; rfl
 ·refine q006.p h1 [] rfl Tryz.call35 ?_ ?_
  ·simp -implicitDefEqProofs only [aR', go_sem]
  simp -implicitDefEqProofs only [eR', go_sem]
  cases hb2 : prB g c <;> rw [hb2] at h2
  ·refine q006.p h2 [] rfl Tryz.call14 ?_ ?_
   ·simp -implicitDefEqProofs only [aR', go_sem]
   simp -implicitDefEqProofs only [eR', go_sem]
   rw [q22d, hb1, hb2]; rfl
  ·refine q006.p h2 [] rfl Tryz.call14 ?_ ?_
   ·simp -implicitDefEqProofs only [aR', go_sem]
   simp -implicitDefEqProofs only [eR', go_sem]
   rw [q22d, hb1, hb2]; rfl
theorem q22e {g : Gm} {c : Cl} : q22d g c = 0 ↔ q0fl g = true /\ prB g c = true := by
 unfold q22d
 cases q0fl g <;> cases prB g c <;> simp
end

def mx0 (l : List Int) : Int := l.foldl max 0
def half (l : List Int) : List Int := l.map fun x => x / 2
def hvd : Nat -> List Int -> List Int
 | 0, l => l
 | f + 1, l => if mx0 l <= 1000000000 then l else hvd f (half l)

def W (f : Nat) : Int := ((2 ^ (29 + f) : Nat) : Int)
def hw (l : List Int) : List Int × Int := if 1 <= l.length /\ l.length <= 4 /\ ∀ x ∈ l, 0 <= x then (hvd 34 l, 0) else ([], 2)

def tot : List (List Int) -> Nat
 | [] => 0
 | r :: m => r.length + tot m
theorem q0vn : ∀ {m : List (List Int)} {r : List Int}, r ∈ m -> r.length <= tot m
 | r' :: m, r, h => by
   rcases List.mem_cons.1 h with rfl | h
   ·simp [tot]
   ·have := q0vn h; simp only [tot]; omega

def q0cg (g : Gm) : T := .agg [q0m0 g.nd, q0qa g.w, q0qa g.v]
def q0tt (s : Int × List (List Int)) : T := .agg [.i s.1, q0qa s.2]
theorem q0m1 (l : List Nd) : (q0m0 l).toSh = nodes l := by
 show T.sh 5 (T.toShL (chunk q0lv l)) = T.sh 5 (chunk q0lu l)
 congr 1
 induction l with
 | nil => rfl
 | cons x l ih =>
   rw [q069, q069, T.toShL_eq_map, List.map_append, ← T.toShL_eq_map (chunk q0lv l), ih]
   congr 1
   show [T.i x.p, .i x.a, .i x.b, .i x.f, (intsO x.ch).toSh] = _
   rw [q0fi]; rfl
theorem q0vh (l : List Nd) : T.toShL (chunk q0lv l) = chunk q0lu l := by
 have := q0m1 l
 simpa [q0m0, nodes, T.toSh] using this
attribute [go_sem] q0vh
section
attribute [-go_sem] q0i5 q0id fldC lenC idxC q0ip
end

section
attribute [-go_sem] q0i5 q0id fldC lenC idxC q0ip
def q0q5 (m : List (List Int)) : Prop := m.length <= 1000000000000 /\ ∀ r ∈ m, r.length <= 1000000000000
end

def q0qc (m : List (List Int)) : Prop := m.length <= 1048576 /\ tot m <= 1048576
theorem q0qd {m : List (List Int)} (h : q0qc m) : q0q5 m := ⟨by have := h.1; omega, fun r hr => by have := q0vn hr; have := h.2; omega⟩
theorem q0qe {m : List (List Int)} (h : q0qc m) : q0q9 m := ⟨by have := h.1; omega, fun r hr => by have := q0vn hr; have := h.2; omega⟩

end Go.Ab
