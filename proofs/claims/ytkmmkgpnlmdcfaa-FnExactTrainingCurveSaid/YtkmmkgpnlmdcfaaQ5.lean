/- Contracts: valid games. -/
import Derived.Test.YtkmmkgpnlmdcfaaQ4
set_option linter.unusedSimpArgs false
set_option linter.unusedVariables false
set_option maxRecDepth 20000
namespace Go.Ab
open Go.Proofs

theorem q0u0 : ∀ l : List Int, sumI l = l.sum
  | [] => rfl
  | x :: l => by rw [sumI, List.sum_cons, q0u0 l]
theorem q0vm (w : List (List Int)) (r : List Int) : totW (w ++ [r]) = totW w + r.sum := by
  simp only [totW, List.map_append, List.map_cons, List.map_nil]
  rw [q0u7, q0u0 r]
theorem q0vl : totW [] = 0 := rfl
def q0ry (w : List (List Int)) : Prop := w.length <= 6 /\ ∀ r ∈ w, r.length <= 6 /\ ∀ x ∈ r, 0 <= x /\ x <= 9
theorem q0s0 {w : List (List Int)} (h : q0ry w) {r : List Int} (hr : r ∈ w) : q0rv r := ⟨by have := (h.2 r hr).1; omega, fun x hx => by have := (h.2 r hr).2 x hx; omega⟩
theorem q0vk {w : List (List Int)} (h : q0ry w) (k : Nat) : 0 <= totW (w.take k) /\ totW (w.take k) <= 324 := by
  have h1 : ∀ x ∈ (w.take k).map sumI, 0 <= x := fun x hx => by
    obtain ⟨r, hr, rfl⟩ := List.mem_map.1 hx
    exact q0u4 fun y hy => ((h.2 r (List.mem_of_mem_take hr)).2 y hy).1
  have h2 : ∀ x ∈ (w.take k).map sumI, x <= 54 := fun x hx => by
    obtain ⟨r, hr, rfl⟩ := List.mem_map.1 hx
    have := q0u1 (b := 9) fun y hy => ((h.2 r (List.mem_of_mem_take hr)).2 y hy).2
    have := (h.2 r (List.mem_of_mem_take hr)).1
    omega
  refine ⟨q0u4 h1, ?_⟩
  have := q0u1 h2
  rw [List.length_map, List.length_take] at this
  have := h.1
  unfold totW; omega
theorem q0rz {w : List (List Int)} {k : Nat} (h : matK w k 0 9 = true) (hk : k <= 6) : q0ry w := by
  obtain ⟨h1, h2⟩ := q0jv h
  exact ⟨by omega, fun r hr => ⟨by have := (h2 r hr).1; omega, fun x hx => by have := (h2 r hr).2 x hx; omega⟩⟩

theorem q0la {i n : Nat} (h : i < n) (hn : n <= 9223372036854775807) : IntKind.i64.wrap ((i : Int) + 1) = ((i + 1 : Nat) : Int) := by
  rw [wrap64 (by omega) (by omega)]; omega
section
attribute [-go_sem] q0i5
theorem q0f2 (g : Gm) (h : q0ry g.w) : Pure Try.prog 177 [q0ck g] (.i (totW g.w)) := by
  have hl := h.1
  refine q0aq (by simp) ?_
  simp -implicitDefEqProofs only [go_sem, evR, ints, rows, rat, rats, q03s, q0ck, nodes]
  refine SemC.loopR (σ := Nat) (fun i => St.of [(3, .t (.i (totW (g.w.take i)))), (7, .t (rows g.w)), (8, .t (.i g.w.length)), (9, .t (.i i))] []) (fun i => i <= g.w.length) (fun i => g.w.length - i) 0 (Weak.of _ [] [] (by simp) (by simp) ?_ trivial) (by omega) fun i hi R hn hr he => ?_
  · simp -implicitDefEqProofs only [ints, rows, Nat.reduceBEq, wkR, Nat.reduceEqDiff, ↓reduceIte, wrR, List.take_zero, q0vl]
  · rcases Nat.lt_or_ge i g.w.length with h9 | h9
    · obtain ⟨r, hx⟩ : ∃ r, g.w[i]? = some r := ⟨_, List.getElem?_eq_getElem h9⟩
      simp -implicitDefEqProofs only [go_sem, evR, ints, rows, rat, rats, hx, decide_eq_true (show (i : Int) < (g.w.length : Int) by omega)]
      refine ⟨by omega, by omega, by omega, ?_⟩
      refine q006.pure (q0f1 r (q0s0 h (List.mem_of_getElem? hx))) [] rfl Try.call200 ?_ (by first | trivial | simp [T.noSh, T.noShL, rat]) rfl ?_
      · simp -implicitDefEqProofs only [agR, Nat.reduceLeDiff, Nat.reduceSub, vaR, go_sem, ints, rows, rat, rats, q0p1, rtR, intsO, q0qa]
      simp -implicitDefEqProofs only [go_sem, evR, ints, rows, rat, rats]
      have e := q0vm (g.w.take i) r
      rw [← q0uj hx] at e
      have hb := q0vk h (i + 1)
      refine hn _ (i + 1) (Weak.of _ [] [] (by simp) (by simp) ?_ trivial) (by omega) (by omega)
      simp -implicitDefEqProofs only [ints, rows, Nat.reduceBEq, wkR, Nat.reduceEqDiff, ↓reduceIte, wrR, q0lb h9 (by omega), ← e, wrap64 (n := totW (g.w.take (i + 1))) (by omega) (by omega)]
    · simp -implicitDefEqProofs only [go_sem, evR, ints, rows, rat, rats, decide_eq_false (show ¬ (i : Int) < (g.w.length : Int) by omega)]
      refine he _ _ ?_
      simp -implicitDefEqProofs only [go_sem, evR, ints, rows, rat, rats]
      rw [List.take_of_length_le (by omega)]
theorem q0sg (g : Gm) (h : q0ry g.w) : Pure Try.prog 191 [q0ck g] (.i (totW g.w)) := by
  have hl := h.1
  refine q0bv (by simp) ?_
  simp -implicitDefEqProofs only [go_sem, evR, ints, rows, rat, rats, q04x, q0ck, nodes]
  refine SemC.loopR (σ := Nat) (fun i => St.of [(1, .own 1), (3, .t (.i (totW (g.w.take i)))), (4, .t (.i i))] [(1, .box [nodes g.nd, rows g.w, rows g.v])]) (fun i => i <= g.w.length) (fun i => g.w.length - i) 0 (Weak.of _ _ [some 1] (by simp) (by simp) ?_ ?_) (by omega) fun i hi R hn hr he => ?_
  · simp -implicitDefEqProofs only [ints, rows, Nat.reduceBEq, wkR, Nat.reduceEqDiff, ↓reduceIte, wrR, List.take_zero, q0vl, nodes]
  · exact ⟨⟨_, rfl, .refl _⟩, rfl, trivial⟩
  · rcases Nat.lt_or_ge i g.w.length with h9 | h9
    · obtain ⟨r, hx⟩ : ∃ r, g.w[i]? = some r := ⟨_, List.getElem?_eq_getElem h9⟩
      simp -implicitDefEqProofs only [go_sem, evR, ints, rows, rat, rats, nodes, hx, decide_eq_true (show (i : Int) < (g.w.length : Int) by omega)]
      refine ⟨by omega, by omega, by omega, ?_⟩
      refine q006.pure (q0s7 r (q0s0 h (List.mem_of_getElem? hx))) [] rfl Try.call187 ?_ (by first | trivial | simp [T.noSh, T.noShL, rat]) rfl ?_
      · simp -implicitDefEqProofs only [agR, Nat.reduceLeDiff, Nat.reduceSub, vaR, go_sem, ints, rows, rat, rats, q0p1, rtR, intsO, q0qa]
      simp -implicitDefEqProofs only [go_sem, evR, ints, rows, rat, rats]
      have e := q0vm (g.w.take i) r
      rw [← q0uj hx] at e
      have hb := q0vk h (i + 1)
      refine hn _ (i + 1) (Weak.of _ _ [some 1] (by simp) (by simp) ?_ ?_) (by omega) (by omega)
      · simp -implicitDefEqProofs only [ints, rows, Nat.reduceBEq, wkR, Nat.reduceEqDiff, ↓reduceIte, wrR, nodes, q0lb h9 (by omega), ← e, wrap64 (n := totW (g.w.take (i + 1))) (by omega) (by omega)]
      · exact ⟨⟨_, rfl, .refl _⟩, rfl, trivial⟩
    · simp -implicitDefEqProofs only [go_sem, evR, ints, rows, rat, rats, nodes, decide_eq_false (show ¬ (i : Int) < (g.w.length : Int) by omega)]
      refine he _ _ ?_
      simp -implicitDefEqProofs only [go_sem, evR, ints, rows, rat, rats]
      rw [List.take_of_length_le (by omega)]
theorem q0js {m : List (List Int)} {k : Nat} {lo hi : Int} : matK m k lo hi = true ↔ m.length = k /\ ∀ r ∈ m, r.length = k /\ ∀ x ∈ r, lo <= x /\ x <= hi := by
  simp only [matK, Bool.and_eq_true, decide_eq_true_eq, List.all_eq_true]
theorem q0jr {m : List (List Int)} {k : Nat} {lo hi : Int} (h : ¬ (m.length = k /\ ∀ r ∈ m, r.length = k /\ ∀ x ∈ r, lo <= x /\ x <= hi)) : matK m k lo hi = false := by
  cases hc : matK m k lo hi with
  | false => rfl
  | true => exact absurd (q0js.1 hc) h
theorem q0sd (m : List (List Int)) (k : Nat) (lo hi : Int) (hm : m.length <= 9223372036854775807) (hk : k <= 6) : Pure Try.prog 195 [rows m, .i k, .i lo, .i hi] (.b (matK m k lo hi)) := by
  refine q0bs (by simp) ?_
  simp -implicitDefEqProofs only [go_sem, evR, ints, rows, rat, rats, q04u]
  refine SemC.loopR (σ := Nat) (fun i => St.of [(0, .t (rows m)), (1, .t (.i k)), (2, .t (.i lo)), (3, .t (.i hi)), (9, .t (.i i))] []) (fun i => i <= m.length /\ ∀ j r, j < i -> m[j]? = some r -> r.length = k /\ ∀ x ∈ r, lo <= x /\ x <= hi) (fun i => m.length - i) 0 (Weak.of _ [] [] (by simp) (by simp) ?_ trivial) ⟨by omega, fun j r hj => by omega⟩ fun i hI R hn hr he => ?_
  · simp -implicitDefEqProofs only [ints, rows, Nat.reduceBEq, wkR, Nat.reduceEqDiff, ↓reduceIte, wrR]
  · obtain ⟨hi', hrows⟩ := hI
    rcases Nat.lt_or_ge i m.length with h9 | h9
    · obtain ⟨r, hx⟩ : ∃ r, m[i]? = some r := ⟨_, List.getElem?_eq_getElem h9⟩
      simp -implicitDefEqProofs only [go_sem, evR, ints, rows, rat, rats, hx, decide_eq_true (show (i : Int) < (m.length : Int) by omega)]
      refine ⟨by omega, by omega, by omega, fun h1 => hr _ ?_, fun h1 => ?_⟩
      · simp -implicitDefEqProofs only [go_sem, evR, ints, rows, rat, rats]
        rw [q0jr fun h => by have := (h.2 r (List.mem_of_getElem? hx)).1; simp at h1; omega]
      · have h1 : r.length = k := by simp at h1; omega
        refine SemC.loopR (σ := Nat) (fun j => St.of [(0, .t (rows m)), (1, .t (.i k)), (2, .t (.i lo)), (3, .t (.i hi)), (9, .t (.i i)), (10, .t (.i j))] []) (fun j => j <= k /\ ∀ t x, t < j -> r[t]? = some x -> lo <= x /\ x <= hi) (fun j => k - j) 0 (Weak.of _ [] [] (by simp) (by simp) ?_ trivial) ⟨by omega, fun j x hj => by omega⟩ fun j hJ R2 hn2 hr2 he2 => ?_
        · simp -implicitDefEqProofs only [ints, rows, Nat.reduceBEq, wkR, Nat.reduceEqDiff, ↓reduceIte, wrR]
        · obtain ⟨hj, hels⟩ := hJ
          rcases Nat.lt_or_ge j k with h8 | h8
          · obtain ⟨x, hy⟩ : ∃ x, r[j]? = some x := ⟨_, List.getElem?_eq_getElem (by omega)⟩
            simp -implicitDefEqProofs only [go_sem, evR, ints, rows, rat, rats, hx, hy, decide_eq_true (show (j : Int) < (k : Int) by omega)]
            refine ⟨by omega, by omega, by omega, by omega, by omega, by omega, ?_⟩
            refine q006.pure (q0s4 x lo hi) [] rfl Try.call148 ?_ (by first | trivial | simp [T.noSh, T.noShL, rat]) rfl ?_
            · simp -implicitDefEqProofs only [agR, Nat.reduceLeDiff, Nat.reduceSub, vaR, go_sem, ints, rows, rat, rats, q0p1, rtR, intsO, q0qa]
            simp -implicitDefEqProofs only [go_sem, evR, ints, rows, rat, rats]
            refine ⟨fun h2 => hr2 _ ?_, fun h2 => hn2 _ (j + 1) (Weak.of _ [] [] (by simp) (by simp) ?_ trivial) ⟨by omega, fun t y ht hyt => ?_⟩ (by omega)⟩
            · simp -implicitDefEqProofs only [go_sem, evR, ints, rows, rat, rats]
              refine hr _ ?_
              simp -implicitDefEqProofs only [go_sem, evR, ints, rows, rat, rats]
              rw [q0jr fun h => by have := (h.2 r (List.mem_of_getElem? hx)).2 x (List.mem_of_getElem? hy); have := bnT h2; simp at this; omega]
            · simp -implicitDefEqProofs only [ints, rows, Nat.reduceBEq, wkR, Nat.reduceEqDiff, ↓reduceIte, wrR, q0lb h8 (by omega)]
            · by_cases htj : t = j
              · subst htj; rw [hy] at hyt; cases hyt
                have := bnF h2
                simpa using this
              · exact hels t y (by omega) hyt
          · simp -implicitDefEqProofs only [go_sem, evR, ints, rows, rat, rats, decide_eq_false (show ¬ (j : Int) < (k : Int) by omega)]
            refine he2 _ _ ?_
            simp -implicitDefEqProofs only [go_sem, evR, ints, rows, rat, rats]
            refine hn _ (i + 1) (Weak.of _ [] [] (by simp) (by simp) ?_ trivial) ⟨by omega, fun t y ht hyt => ?_⟩ (by omega)
            · simp -implicitDefEqProofs only [ints, rows, Nat.reduceBEq, wkR, Nat.reduceEqDiff, ↓reduceIte, wrR, q0la h9 hm]
            · by_cases htj : t = i
              · subst htj; rw [hx] at hyt; cases hyt
                refine ⟨h1, fun z hz => ?_⟩
                obtain ⟨u, hu, rfl⟩ := List.mem_iff_getElem.1 hz
                exact hels u _ (by omega) (List.getElem?_eq_getElem hu)
              · exact hrows t y (by omega) hyt
    · simp -implicitDefEqProofs only [go_sem, evR, ints, rows, rat, rats, decide_eq_false (show ¬ (i : Int) < (m.length : Int) by omega)]
      refine he _ _ ?_
      simp -implicitDefEqProofs only [go_sem, evR, ints, rows, rat, rats]
      have hall : ∀ r ∈ m, r.length = k /\ ∀ x ∈ r, lo <= x /\ x <= hi := fun r hr => by
        obtain ⟨u, hu, rfl⟩ := List.mem_iff_getElem.1 hr
        exact hrows u _ (by omega) (List.getElem?_eq_getElem hu)
      by_cases hmk : m.length = k
      · rw [q0js.2 ⟨hmk, hall⟩, hmk]; simp [T.b]
      · rw [q0jr fun h => hmk h.1]
        have e : ((m.length : Int) == (k : Int)) = false := by simp; omega
        rw [e]
theorem q0fp {g : Gm} (h : q0fv g.nd = false) : q0fl g = false := by rw [q0fl, h]; rfl
theorem q0s2 (g : Gm) (hg : q0cf g) : Pure Try.prog 139 [q0ck g] (.b (q0fl g)) := by
  obtain ⟨hg1, hg2, hg3, hg4⟩ := hg
  have ht := q0s3 g.nd hg1 hg2
  simp only [q0vz, nodes] at ht
  refine q0bi (by simp) ?_
  simp -implicitDefEqProofs only [go_sem, evR, ints, rows, rat, rats, q04k, q0ck, nodes]
  refine q006.pure ht [] rfl Try.call194 ?_ (by first | trivial | simp [T.noSh, T.noShL, rat]) rfl ?_
  · simp -implicitDefEqProofs only [agR, Nat.reduceLeDiff, Nat.reduceSub, vaR, go_sem, ints, rows, rat, rats, q0p1, rtR, intsO, q0qa]
  simp -implicitDefEqProofs only [go_sem, evR, ints, rows, rat, rats]
  refine ⟨fun h1 => ?_, fun h1 => by rw [q0fp (by simpa using h1)]⟩
  have h1 : q0fv g.nd = true := by simpa using h1
  refine q006.pure (q0s4 g.w.length 1 6) [] rfl Try.call148 ?_ (by first | trivial | simp [T.noSh, T.noShL, rat]) rfl ?_
  · simp -implicitDefEqProofs only [agR, Nat.reduceLeDiff, Nat.reduceSub, vaR, go_sem, ints, rows, rat, rats, q0p1, rtR, intsO, q0qa]
  simp -implicitDefEqProofs only [go_sem, evR, ints, rows, rat, rats]
  refine ⟨fun h2 h2' => ?_, fun h2 => ?_⟩
  rotate_left
  · have h2 : ¬ (1 <= g.w.length /\ g.w.length <= 6) := by omega
    rw [q0fl, h1, decide_eq_false h2]; rfl
  have h2 : 1 <= g.w.length /\ g.w.length <= 6 := by omega
  have hm1 := q0sd g.w g.w.length 0 9 hg3.1 h2.2
  have hm2 := q0sd g.v g.w.length (-1) 1 hg4.1 h2.2
  simp only [rows] at hm1 hm2
  refine q006.pure hm1 [] rfl Try.call195 ?_ (by first | trivial | simp [T.noSh, T.noShL, rat]) rfl ?_
  · simp -implicitDefEqProofs only [agR, Nat.reduceLeDiff, Nat.reduceSub, vaR, go_sem, ints, rows, rat, rats, q0p1, rtR, intsO, q0qa]
  simp -implicitDefEqProofs only [go_sem, evR, ints, rows, rat, rats]
  refine ⟨fun h3 => ?_, fun h3 => ?_⟩
  rotate_left
  · have h3 : matK g.w g.w.length 0 9 = false := by simpa using h3
    rw [q0fl, h3]; simp
  have h3 : matK g.w g.w.length 0 9 = true := by simpa using h3
  refine q006.pure hm2 [] rfl Try.call195 ?_ (by first | trivial | simp [T.noSh, T.noShL, rat]) rfl ?_
  · simp -implicitDefEqProofs only [agR, Nat.reduceLeDiff, Nat.reduceSub, vaR, go_sem, ints, rows, rat, rats, q0p1, rtR, intsO, q0qa]
  simp -implicitDefEqProofs only [go_sem, evR, ints, rows, rat, rats]
  refine ⟨fun h4 => ?_, fun h4 => ?_⟩
  rotate_left
  · have h4 : matK g.v g.w.length (-1) 1 = false := by simpa using h4
    rw [q0fl, h4]; simp
  have h4 : matK g.v g.w.length (-1) 1 = true := by simpa using h4
  have hw := q0sg g (q0rz h3 h2.2)
  simp only [q0ck, nodes, rows] at hw
  refine q006.pure hw [] rfl Try.call191 ?_ (by first | trivial | simp [T.noSh, T.noShL, rat]) rfl ?_
  · simp -implicitDefEqProofs only [agR, Nat.reduceLeDiff, Nat.reduceSub, vaR, go_sem, ints, rows, rat, rats, q0p1, rtR, intsO, q0qa]
  simp -implicitDefEqProofs only [go_sem, evR, ints, rows, rat, rats]
  rw [q0fl, h1, decide_eq_true h2, h3, h4]; rfl
end

section
attribute [-go_sem] q0i5
def rowK (k : Nat) (lo hi : Int) (r : List Int) : Prop := r.length = k /\ (r.all fun x => decide (lo <= x /\ x <= hi)) = true
theorem q0ju {m : List (List Int)} {k : Nat} {lo hi : Int} (hm : m.length = k) (h : ∀ i r, i < k -> m[i]? = some r -> rowK k lo hi r) : matK m k lo hi = true := by
  refine q0js.2 ⟨hm, fun r hr => ?_⟩
  obtain ⟨u, hu, rfl⟩ := List.mem_iff_getElem.1 hr
  obtain ⟨h1, h2⟩ := h u _ (by omega) (List.getElem?_eq_getElem hu)
  refine ⟨h1, fun x hx => ?_⟩
  rw [List.all_eq_true] at h2
  simpa using h2 x hx
theorem q0jt {m : List (List Int)} {k : Nat} {lo hi : Int} (h : matK m k lo hi = true) {i : Nat} {r : List Int} (hr : m[i]? = some r) : rowK k lo hi r := by
  obtain ⟨h1, h2⟩ := q0js.1 h
  obtain ⟨h3, h4⟩ := h2 r (List.mem_of_getElem? hr)
  exact ⟨h3, List.all_eq_true.2 fun x hx => decide_eq_true (h4 x hx)⟩
theorem q0fn {g : Gm} (h : q0fl g = true) : q0fv g.nd = true /\ (1 <= g.w.length /\ g.w.length <= 6) /\ matK g.w g.w.length 0 9 = true /\ matK g.v g.w.length (-1) 1 = true /\ 0 < totW g.w := by
  simp only [q0fl, Bool.and_eq_true, decide_eq_true_eq] at h
  exact ⟨h.1.1.1.1, h.1.1.1.2, h.1.1.2, h.1.2, h.2⟩
theorem q0fm {g : Gm} (h : q0fl g = true -> False) : q0fl g = false := by
  cases hc : q0fl g with
  | false => rfl
  | true => exact (h hc).elim
theorem q0ee (g : Gm) (hg : q0cf g) : Pure Try.prog 115 [q0ck g] (.b (q0fl g)) := by
  obtain ⟨hg1, hg2, hg3, hg4⟩ := hg
  have ht := q0ef g.nd hg1 hg2
  simp only [q0vz, nodes] at ht
  refine q0a9 (by simp) ?_
  simp -implicitDefEqProofs only [go_sem, evR, ints, rows, rat, rats, q03b, q0ck, nodes]
  refine q006.pure ht [] rfl Try.call175 ?_ (by first | trivial | simp [T.noSh, T.noShL, rat]) rfl ?_
  · simp -implicitDefEqProofs only [agR, Nat.reduceLeDiff, Nat.reduceSub, vaR, go_sem, ints, rows, rat, rats, q0p1, rtR, intsO, q0qa]
  simp -implicitDefEqProofs only [go_sem, evR, ints, rows, rat, rats]
  refine ⟨fun h1 => ?_, fun h1 => ?_⟩
  rotate_left
  · rw [q0fm fun h => by have := (q0fn h).1; rw [this] at h1; simp at h1]
  have h1 : q0fv g.nd = true := by simpa using h1
  refine q006.pure (q0f9 g.w.length 1 6) [] rfl Try.call110 ?_ (by first | trivial | simp [T.noSh, T.noShL, rat]) rfl ?_
  · simp -implicitDefEqProofs only [agR, Nat.reduceLeDiff, Nat.reduceSub, vaR, go_sem, ints, rows, rat, rats, q0p1, rtR, intsO, q0qa]
  simp -implicitDefEqProofs only [go_sem, evR, ints, rows, rat, rats]
  refine ⟨fun h2 => ⟨fun h3 => ?_, fun h3 => ?_⟩, fun h2 => ?_⟩
  · rw [q0fm fun h => by have := (q0fn h).2.2.2.1; have := (q0js.1 this).1; simp at h3; omega]
  rotate_left
  · rw [q0fm fun h => by have := (q0fn h).2.1; have := bnT h2; simp at this; omega]
  have h2 : 1 <= g.w.length /\ g.w.length <= 6 := by have := bnF h2; simp only [decide_eq_true_eq] at this; omega
  have h3 : g.v.length = g.w.length := by simp at h3; omega
  refine SemC.loopR (σ := Nat) (fun i => St.of [(1, .own 1), (3, .t (.i g.w.length)), (24, .t (.i g.w.length)), (25, .t (.i i))] [(1, .box [nodes g.nd, rows g.w, rows g.v])]) (fun i => i <= g.w.length /\ (∀ j r, j < i -> g.w[j]? = some r -> rowK g.w.length 0 9 r) /\ ∀ j r, j < i -> g.v[j]? = some r -> rowK g.w.length (-1) 1 r) (fun i => g.w.length - i) 0 (Weak.of _ _ [some 1] (by simp) (by simp) ?_ ?_) ⟨by omega, fun j r hj => by omega, fun j r hj => by omega⟩ fun i hI R hn hr he => ?_
  · simp -implicitDefEqProofs only [ints, rows, Nat.reduceBEq, wkR, Nat.reduceEqDiff, ↓reduceIte, wrR, nodes]
  · exact ⟨⟨_, rfl, .refl _⟩, rfl, trivial⟩
  · obtain ⟨hi, hw, hv⟩ := hI
    rcases Nat.lt_or_ge i g.w.length with h9 | h9
    · obtain ⟨r, hx⟩ : ∃ r, g.w[i]? = some r := ⟨_, List.getElem?_eq_getElem h9⟩
      obtain ⟨q, hy⟩ : ∃ q, g.v[i]? = some q := ⟨_, List.getElem?_eq_getElem (by omega)⟩
      have hbw : ¬ rowK g.w.length 0 9 r -> q0fl g = false := fun hc => q0fm fun h => hc (q0jt (q0fn h).2.2.1 hx)
      have hbv : ¬ rowK g.w.length (-1) 1 q -> q0fl g = false := fun hc => q0fm fun h => hc (q0jt (q0fn h).2.2.2.1 hy)
      simp -implicitDefEqProofs only [go_sem, evR, ints, rows, rat, rats, nodes, hx, hy, decide_eq_true (show (i : Int) < (g.w.length : Int) by omega)]
      refine ⟨by omega, by omega, by omega, fun h4 => ⟨by omega, by omega, by omega, ?_⟩, fun h4 => hr _ ?_⟩
      rotate_left
      · simp -implicitDefEqProofs only [go_sem, evR, ints, rows, rat, rats]
        rw [hbw fun h => by have := h.1; simp at h4; omega]
      have h4 : r.length = g.w.length := by simp at h4; omega
      refine ⟨fun h5 => ⟨by omega, by omega, by omega, ?_⟩, fun h5 => hr _ ?_⟩
      rotate_left
      · simp -implicitDefEqProofs only [go_sem, evR, ints, rows, rat, rats]
        rw [hbv fun h => by have := h.1; simp at h5; omega]
      have h5 : q.length = g.w.length := by simp at h5; omega
      refine q006.pure (q0eg r 0 9 (by omega)) [] rfl Try.call176 ?_ (by first | trivial | simp [T.noSh, T.noShL, rat]) rfl ?_
      · simp -implicitDefEqProofs only [agR, Nat.reduceLeDiff, Nat.reduceSub, vaR, go_sem, ints, rows, rat, rats, q0p1, rtR, intsO, q0qa]
      simp -implicitDefEqProofs only [go_sem, evR, ints, rows, rat, rats, hx, hy]
      refine ⟨fun h6 => ⟨by omega, by omega, by omega, ?_⟩, fun h6 => hr _ ?_⟩
      rotate_left
      · simp -implicitDefEqProofs only [go_sem, evR, ints, rows, rat, rats]
        rw [hbw fun h => by rw [h.2] at h6; simp at h6]
      have h6 : (r.all fun x => decide (0 <= x /\ x <= 9)) = true := by simpa using h6
      refine q006.pure (q0eg q (-1) 1 (by omega)) [] rfl Try.call176 ?_ (by first | trivial | simp [T.noSh, T.noShL, rat]) rfl ?_
      · simp -implicitDefEqProofs only [agR, Nat.reduceLeDiff, Nat.reduceSub, vaR, go_sem, ints, rows, rat, rats, q0p1, rtR, intsO, q0qa]
      simp -implicitDefEqProofs only [go_sem, evR, ints, rows, rat, rats]
      refine ⟨fun h7 => hr _ ?_, fun h7 => hn _ (i + 1) (Weak.of _ _ [some 1] (by simp) (by simp) ?_ ?_) ⟨by omega, fun j r' hj hr' => ?_, fun j r' hj hr' => ?_⟩ (by omega)⟩
      · simp -implicitDefEqProofs only [go_sem, evR, ints, rows, rat, rats]
        rw [hbv fun h => by rw [h.2] at h7; simp at h7]
      · simp -implicitDefEqProofs only [ints, rows, Nat.reduceBEq, wkR, Nat.reduceEqDiff, ↓reduceIte, wrR, nodes, q0lb h9 (by omega)]
      · exact ⟨⟨_, rfl, .refl _⟩, rfl, trivial⟩
      · by_cases hji : j = i
        · subst hji; rw [hx] at hr'; cases hr'; exact ⟨h4, h6⟩
        · exact hw j r' (by omega) hr'
      · by_cases hji : j = i
        · subst hji; rw [hy] at hr'; cases hr'; exact ⟨h5, bnF h7⟩
        · exact hv j r' (by omega) hr'
    · simp -implicitDefEqProofs only [go_sem, evR, ints, rows, rat, rats, nodes, decide_eq_false (show ¬ (i : Int) < (g.w.length : Int) by omega)]
      refine he _ _ ?_
      simp -implicitDefEqProofs only [go_sem, evR, ints, rows, rat, rats]
      have hmw : matK g.w g.w.length 0 9 = true := q0ju rfl fun j r hj hr => hw j r (by omega) hr
      have hmv : matK g.v g.w.length (-1) 1 = true := q0ju h3 fun j r hj hr => hv j r (by omega) hr
      have hW := q0f2 g (q0rz hmw h2.2)
      simp only [q0ck, nodes, rows] at hW
      refine q006.pure hW [] rfl Try.call177 ?_ (by first | trivial | simp [T.noSh, T.noShL, rat]) rfl ?_
      · simp -implicitDefEqProofs only [agR, Nat.reduceLeDiff, Nat.reduceSub, vaR, go_sem, ints, rows, rat, rats, q0p1, rtR, intsO, q0qa]
      simp -implicitDefEqProofs only [go_sem, evR, ints, rows, rat, rats]
      rw [q0fl, h1, decide_eq_true h2, hmw, hmv]; rfl
end

theorem q0e5 {l : List Nd} {i : Nat} {x : Nd} (h : l[i]? = some x) (pl : Int) : idxs l pl (i + 1) = if x.p = pl then idxs l pl i ++ [(i : Int)] else idxs l pl i := by
  rw [q0ec, List.getD_eq_getElem?_getD, h]; rfl
theorem q0e7 (l : List Nd) (pl : Int) (n : Nat) : (idxs l pl n).length <= n := by
  unfold idxs
  rw [List.length_map]
  have := List.length_filter_le (fun i => decide ((l.getD i nd0).p = pl)) (List.range n)
  simpa using this
section
attribute [-go_sem] q0i5
theorem q0sa (l : List Nd) (pl : Int) (hl : l.length <= 1000000000000) : Fun Try.prog 220 [] [.t (q0vz l), .t (.i pl)] fun o r => o = [] /\ r = intsO (idxs l pl l.length) := by
  refine q0bq (by simp) ?_
  simp -implicitDefEqProofs only [go_sem, evR, ints, rows, rat, rats, q04s, q0vz, nodes]
  refine SemC.loopR (σ := Nat) (fun i => St.of [(1, .t (.i pl)), (2, .own 2), (5, .own 77), (6, .t (.i i))] [(2, .box [nodes l]), (77, .arr 1 ((idxs l pl i).map T.i))]) (fun i => i <= l.length) (fun i => l.length - i) 0 (Weak.of _ _ [some 2, some 7] (by simp) (by simp) ?_ ?_) (by omega) fun i hi R hn hr he => ?_
  · simp -implicitDefEqProofs only [ints, rows, Nat.reduceBEq, wkR, Nat.reduceEqDiff, ↓reduceIte, wrR, nodes]
  · exact ⟨⟨_, rfl, .refl _⟩, rfl, ⟨_, rfl, .refl _⟩, rfl, trivial⟩
  · rcases Nat.lt_or_ge i l.length with h9 | h9
    · obtain ⟨x, hx⟩ : ∃ x, l[i]? = some x := ⟨_, List.getElem?_eq_getElem h9⟩
      have hil := q0e7 l pl i
      simp -implicitDefEqProofs only [go_sem, evR, ints, rows, rat, rats, nodes, q0ky hx, decide_eq_true (show (i : Int) < (l.length : Int) by omega)]
      refine ⟨by omega, by rw [q0l0]; omega, by rw [q0l0]; omega, fun h1 => ⟨by omega, ?_⟩, fun h1 => ?_⟩
      · have h1 : x.p = pl := by simpa using h1
        refine hn _ (i + 1) (Weak.of _ _ [some 2, some 26] (by simp) (by simp) ?_ ?_) (by omega) (by omega)
        · simp -implicitDefEqProofs only [ints, rows, Nat.reduceBEq, wkR, Nat.reduceEqDiff, ↓reduceIte, wrR, nodes, q0lb h9 hl]
        · refine ⟨⟨_, rfl, .refl _⟩, rfl, ⟨_, rfl, ?_⟩, rfl, trivial⟩
          rw [q0e5 hx, if_pos h1, List.map_append]; exact .refl _
      · have h1 : ¬ x.p = pl := by simpa using h1
        refine hn _ (i + 1) (Weak.of _ _ [some 2, some 77] (by simp) (by simp) ?_ ?_) (by omega) (by omega)
        · simp -implicitDefEqProofs only [ints, rows, Nat.reduceBEq, wkR, Nat.reduceEqDiff, ↓reduceIte, wrR, nodes, q0lb h9 hl]
        · refine ⟨⟨_, rfl, .refl _⟩, rfl, ⟨_, rfl, ?_⟩, rfl, trivial⟩
          rw [q0e5 hx, if_neg h1]; exact .refl _
    · simp -implicitDefEqProofs only [go_sem, evR, ints, rows, rat, rats, nodes, decide_eq_false (show ¬ (i : Int) < (l.length : Int) by omega)]
      refine he _ _ ?_
      simp -implicitDefEqProofs only [go_sem, evR, ints, rows, rat, rats]
      rw [show i = l.length by omega]; rfl
theorem q0es (l : List Nd) (pl : Int) (hl : l.length <= 1000000000000) : Fun Try.prog 181 [] [.t (q0vz l), .t (.i pl)] fun o r => o = [] /\ r = intsO (idxs l pl l.length) := by
  refine q0ak (by simp) ?_
  simp -implicitDefEqProofs only [go_sem, evR, ints, rows, rat, rats, q03m, q0vz, nodes]
  refine SemC.loopR (σ := Nat) (fun i => St.of [(1, .t (.i pl)), (5, .own 77), (9, .t (nodes l)), (10, .t (.i l.length)), (11, .t (.i i))] [(77, .arr 1 ((idxs l pl i).map T.i))]) (fun i => i <= l.length) (fun i => l.length - i) 0 (Weak.of _ _ [none] (by simp) (by simp) ?_ ?_) (by omega) fun i hi R hn hr he => ?_
  · simp -implicitDefEqProofs only [ints, rows, Nat.reduceBEq, wkR, Nat.reduceEqDiff, ↓reduceIte, wrR, nodes, q0l0]
  · exact ⟨⟨1, rfl⟩, trivial⟩
  · rcases Nat.lt_or_ge i l.length with h9 | h9
    · obtain ⟨x, hx⟩ : ∃ x, l[i]? = some x := ⟨_, List.getElem?_eq_getElem h9⟩
      have hil := q0e7 l pl i
      simp -implicitDefEqProofs only [go_sem, evR, ints, rows, rat, rats, nodes, q0kw hx, decide_eq_true (show (i : Int) < (l.length : Int) by omega)]
      refine ⟨by omega, by rw [q0l0]; omega, by rw [q0l0]; omega, fun h1 => ⟨by omega, ?_⟩, fun h1 => ?_⟩
      · have h1 : x.p = pl := by simpa using h1
        refine hn _ (i + 1) (Weak.of _ _ [some 23] (by simp) (by simp) ?_ ?_) (by omega) (by omega)
        · simp -implicitDefEqProofs only [ints, rows, Nat.reduceBEq, wkR, Nat.reduceEqDiff, ↓reduceIte, wrR, nodes, q0lb h9 hl]
        · refine ⟨⟨_, rfl, ?_⟩, rfl, trivial⟩
          rw [q0e5 hx, if_pos h1, List.map_append]; exact .refl _
      · have h1 : ¬ x.p = pl := by simpa using h1
        refine hn _ (i + 1) (Weak.of _ _ [some 77] (by simp) (by simp) ?_ ?_) (by omega) (by omega)
        · simp -implicitDefEqProofs only [ints, rows, Nat.reduceBEq, wkR, Nat.reduceEqDiff, ↓reduceIte, wrR, nodes, q0lb h9 hl]
        · refine ⟨⟨_, rfl, ?_⟩, rfl, trivial⟩
          rw [q0e5 hx, if_neg h1]; exact .refl _
    · simp -implicitDefEqProofs only [go_sem, evR, ints, rows, rat, rats, nodes, decide_eq_false (show ¬ (i : Int) < (l.length : Int) by omega)]
      refine he _ _ ?_
      simp -implicitDefEqProofs only [go_sem, evR, ints, rows, rat, rats]
      rw [show i = l.length by omega]; rfl
def q0r7 (ns : List Int) (k i c : Nat) : List (List Int) := q0r3 (ns.take i) k ++ (List.range c).map fun a : Nat => [ns.getD i 0, (a : Int)]
theorem q0rc (ns : List Int) (k i : Nat) : q0r7 ns k i 0 = q0r3 (ns.take i) k := by simp [q0r7]
theorem q0rb (ns : List Int) (k i c : Nat) : q0r7 ns k i (c + 1) = q0r7 ns k i c ++ [[ns.getD i 0, (c : Int)]] := by simp [q0r7, List.range_succ]
theorem q0ra {ns : List Int} {k i : Nat} {n : Int} (h : ns[i]? = some n) : q0r7 ns k i k = q0r7 ns k (i + 1) 0 := by
  rw [q0rc, q0uj h, q0r6, q0r7, List.getD_eq_getElem?_getD, h]; rfl
theorem q0r9 (ns : List Int) (k i c : Nat) : (q0r7 ns k i c).length <= ns.length * k + c := by
  rw [q0r7, List.length_append, q0r4, List.length_map, List.length_range, List.length_take]
  have : Nat.min i ns.length * k <= ns.length * k := Nat.mul_le_mul_right _ (Nat.min_le_right _ _)
  have e : min i ns.length = Nat.min i ns.length := rfl
  rw [e]; omega
theorem q0r8 (ns : List Int) (k : Nat) : q0r7 ns k ns.length 0 = q0r3 ns k := by rw [q0rc, List.take_length]
theorem q0sb (l : List Nd) (pl : Int) (hl : l.length <= 1000000000000) : Fun Try.prog 220 [] [.t (.agg [.sh 5 (chunk q0lu l)]), .t (.i pl)] fun o r => o = [] /\ r = intsO (idxs l pl l.length) := q0sa l pl hl
theorem q0et (l : List Nd) (pl : Int) (hl : l.length <= 1000000000000) : Fun Try.prog 181 [] [.t (.agg [.sh 5 (chunk q0lu l)]), .t (.i pl)] fun o r => o = [] /\ r = intsO (idxs l pl l.length) := q0es l pl hl
theorem q0sf (g : Gm) (pl : Int) (hl : g.nd.length <= 60) (hk : g.w.length <= 6) : Fun Try.prog 186 [] [.t (q0ck g), .t (.i pl)] fun o r => o = [] /\ r = q0qa (sets g pl) := by
  refine q0bu (by simp) ?_
  simp -implicitDefEqProofs only [go_sem, evR, ints, rows, rat, rats, q04w, q0ck, nodes]
  refine q006.res (q0sb g.nd pl (by omega)) [] rfl Try.call220 ?_ (.inl rfl) ?_
  · simp -implicitDefEqProofs only [agR, Nat.reduceLeDiff, Nat.reduceSub, vaR, go_sem, ints, rows, rat, rats, q0p1, rtR, intsO, q0qa]
  simp -implicitDefEqProofs only [clR, Nat.reduceLeDiff, go_sem, evR, rat]
  have hns := q0e7 g.nd pl g.nd.length
  have hsets : sets g pl = q0r3 (idxs g.nd pl g.nd.length) g.w.length := rfl
  rw [hsets]
  generalize idxs g.nd pl g.nd.length = ns at hns ⊢
  refine SemC.loopR (σ := Nat) (fun i => St.of [(2, .own 2), (5, .own 12), (6, .own 77), (7, .t (.i i))] [(2, .box [nodes g.nd, rows g.w, rows g.v]), (12, intsO ns), (77, .arr 1 ((q0r7 ns g.w.length i 0).map intsO))]) (fun i => i <= ns.length) (fun i => ns.length - i) 0 (Weak.of _ _ [some 2, some 12, some 13] (by simp) (by simp) ?_ ?_) (by omega) fun i hi R hn hr he => ?_
  · simp -implicitDefEqProofs only [ints, rows, Nat.reduceBEq, wkR, Nat.reduceEqDiff, ↓reduceIte, wrR, nodes]
  · exact ⟨⟨_, rfl, .refl _⟩, rfl, ⟨_, rfl, .refl _⟩, rfl, ⟨_, rfl, .refl _⟩, rfl, trivial⟩
  · rcases Nat.lt_or_ge i ns.length with h9 | h9
    · obtain ⟨n, hx⟩ : ∃ n, ns[i]? = some n := ⟨_, List.getElem?_eq_getElem h9⟩
      simp -implicitDefEqProofs only [go_sem, evR, ints, rows, rat, rats, nodes, intsO, decide_eq_true (show (i : Int) < (ns.length : Int) by omega)]
      refine SemC.loopR (σ := Nat) (fun c => St.of [(2, .own 2), (5, .own 12), (6, .own 77), (7, .t (.i i)), (8, .t (.i c))] [(2, .box [nodes g.nd, rows g.w, rows g.v]), (12, intsO ns), (77, .arr 1 ((q0r7 ns g.w.length i c).map intsO))]) (fun c => c <= g.w.length) (fun c => g.w.length - c) 0 (Weak.of _ _ [some 2, some 12, some 77] (by simp) (by simp) ?_ ?_) (by omega) fun c hc R2 hn2 hr2 he2 => ?_
      · simp -implicitDefEqProofs only [ints, rows, Nat.reduceBEq, wkR, Nat.reduceEqDiff, ↓reduceIte, wrR, nodes]
      · exact ⟨⟨_, rfl, .refl _⟩, rfl, ⟨_, rfl, .refl _⟩, rfl, ⟨_, rfl, .refl _⟩, rfl, trivial⟩
      · rcases Nat.lt_or_ge c g.w.length with h8 | h8
        · have hil := q0r9 ns g.w.length i c
          simp -implicitDefEqProofs only [go_sem, evR, ints, rows, rat, rats, nodes, intsO, hx, decide_eq_true (show (c : Int) < (g.w.length : Int) by omega)]
          have hmul : ns.length * g.w.length <= 60 * 6 := Nat.mul_le_mul (by omega) hk
          refine ⟨by omega, by omega, by omega, by omega, hn2 _ (c + 1) (Weak.of _ _ [some 2, some 12, some 35] (by simp) (by simp) ?_ ?_) (by omega) (by omega)⟩
          · simp -implicitDefEqProofs only [ints, rows, Nat.reduceBEq, wkR, Nat.reduceEqDiff, ↓reduceIte, wrR, nodes, q0lb h8 (by omega)]
          · refine ⟨⟨_, rfl, .refl _⟩, rfl, ⟨_, rfl, .refl _⟩, rfl, ⟨_, rfl, ?_⟩, rfl, trivial⟩
            rw [q0rb, List.map_append, List.getD_eq_getElem?_getD, hx]; exact .refl _
        · simp -implicitDefEqProofs only [go_sem, evR, ints, rows, rat, rats, nodes, decide_eq_false (show ¬ (c : Int) < (g.w.length : Int) by omega)]
          refine he2 _ _ ?_
          simp -implicitDefEqProofs only [go_sem, evR, ints, rows, rat, rats]
          refine hn _ (i + 1) (Weak.of _ _ [some 2, some 12, some 77] (by simp) (by simp) ?_ ?_) (by omega) (by omega)
          · simp -implicitDefEqProofs only [ints, rows, Nat.reduceBEq, wkR, Nat.reduceEqDiff, ↓reduceIte, wrR, nodes, q0lb h9 (by omega)]
          · refine ⟨⟨_, rfl, .refl _⟩, rfl, ⟨_, rfl, .refl _⟩, rfl, ⟨_, rfl, ?_⟩, rfl, trivial⟩
            rw [show c = g.w.length by omega, q0ra hx]; exact .refl _
    · simp -implicitDefEqProofs only [go_sem, evR, ints, rows, rat, rats, nodes, intsO, decide_eq_false (show ¬ (i : Int) < (ns.length : Int) by omega)]
      refine he _ _ ?_
      simp -implicitDefEqProofs only [go_sem, evR, ints, rows, rat, rats]
      rw [show i = ns.length by omega, q0r8]; rfl
theorem q0eo (g : Gm) (pl : Int) (hl : g.nd.length <= 60) (hk : g.w.length <= 6) : Fun Try.prog 152 [] [.t (q0ck g), .t (.i pl)] fun o r => o = [] /\ r = q0qa (sets g pl) := by
  refine q0ah (by simp) ?_
  simp -implicitDefEqProofs only [go_sem, evR, ints, rows, rat, rats, q03j, q0ck, nodes]
  refine q006.res (q0et g.nd pl (by omega)) [] rfl Try.call181 ?_ (.inl rfl) ?_
  · simp -implicitDefEqProofs only [agR, Nat.reduceLeDiff, Nat.reduceSub, vaR, go_sem, ints, rows, rat, rats, q0p1, rtR, intsO, q0qa]
  simp -implicitDefEqProofs only [clR, Nat.reduceLeDiff, go_sem, evR, rat, intsO]
  have hns := q0e7 g.nd pl g.nd.length
  have hsets : sets g pl = q0r3 (idxs g.nd pl g.nd.length) g.w.length := rfl
  rw [hsets]
  generalize idxs g.nd pl g.nd.length = ns at hns ⊢
  refine SemC.loopR (σ := Nat) (fun i => St.of [(2, .own 2), (5, .own 77), (12, .own 12), (13, .t (.i ns.length)), (14, .t (.i i))] [(2, .box [nodes g.nd, rows g.w, rows g.v]), (12, intsO ns), (77, .arr 1 ((q0r7 ns g.w.length i 0).map intsO))]) (fun i => i <= ns.length) (fun i => ns.length - i) 0 (Weak.of _ _ [some 2, some 12, none] (by simp) (by simp) ?_ ?_) (by omega) fun i hi R hn hr he => ?_
  · simp -implicitDefEqProofs only [ints, rows, Nat.reduceBEq, wkR, Nat.reduceEqDiff, ↓reduceIte, wrR, nodes]
  · exact ⟨⟨_, rfl, .refl _⟩, rfl, ⟨_, rfl, .refl _⟩, rfl, ⟨1, rfl⟩, trivial⟩
  · rcases Nat.lt_or_ge i ns.length with h9 | h9
    · obtain ⟨n, hx⟩ : ∃ n, ns[i]? = some n := ⟨_, List.getElem?_eq_getElem h9⟩
      simp -implicitDefEqProofs only [go_sem, evR, ints, rows, rat, rats, nodes, intsO, hx, decide_eq_true (show (i : Int) < (ns.length : Int) by omega)]
      refine ⟨by omega, by omega, by omega, ?_⟩
      refine SemC.loopR (σ := Nat) (fun c => St.of [(2, .own 2), (5, .own 77), (7, .t (.i n)), (12, .own 12), (13, .t (.i ns.length)), (14, .t (.i i)), (20, .t (.i g.w.length)), (21, .t (.i c))] [(2, .box [nodes g.nd, rows g.w, rows g.v]), (12, intsO ns), (77, .arr 1 ((q0r7 ns g.w.length i c).map intsO))]) (fun c => c <= g.w.length) (fun c => g.w.length - c) 0 (Weak.of _ _ [some 2, some 12, some 77] (by simp) (by simp) ?_ ?_) (by omega) fun c hc R2 hn2 hr2 he2 => ?_
      · simp -implicitDefEqProofs only [ints, rows, Nat.reduceBEq, wkR, Nat.reduceEqDiff, ↓reduceIte, wrR, nodes]
      · exact ⟨⟨_, rfl, .refl _⟩, rfl, ⟨_, rfl, .refl _⟩, rfl, ⟨_, rfl, .refl _⟩, rfl, trivial⟩
      · rcases Nat.lt_or_ge c g.w.length with h8 | h8
        · have hil := q0r9 ns g.w.length i c
          simp -implicitDefEqProofs only [go_sem, evR, ints, rows, rat, rats, nodes, intsO, decide_eq_true (show (c : Int) < (g.w.length : Int) by omega)]
          have hmul : ns.length * g.w.length <= 60 * 6 := Nat.mul_le_mul (by omega) hk
          refine ⟨by omega, hn2 _ (c + 1) (Weak.of _ _ [some 2, some 12, some 29] (by simp) (by simp) ?_ ?_) (by omega) (by omega)⟩
          · simp -implicitDefEqProofs only [ints, rows, Nat.reduceBEq, wkR, Nat.reduceEqDiff, ↓reduceIte, wrR, nodes, q0lb h8 (by omega)]
          · refine ⟨⟨_, rfl, .refl _⟩, rfl, ⟨_, rfl, .refl _⟩, rfl, ⟨_, rfl, ?_⟩, rfl, trivial⟩
            rw [q0rb, List.map_append, List.getD_eq_getElem?_getD, hx]; exact .refl _
        · simp -implicitDefEqProofs only [go_sem, evR, ints, rows, rat, rats, nodes, decide_eq_false (show ¬ (c : Int) < (g.w.length : Int) by omega)]
          refine he2 _ _ ?_
          simp -implicitDefEqProofs only [go_sem, evR, ints, rows, rat, rats]
          refine hn _ (i + 1) (Weak.of _ _ [some 2, some 12, some 77] (by simp) (by simp) ?_ ?_) (by omega) (by omega)
          · simp -implicitDefEqProofs only [ints, rows, Nat.reduceBEq, wkR, Nat.reduceEqDiff, ↓reduceIte, wrR, nodes, q0lb h9 (by omega)]
          · refine ⟨⟨_, rfl, .refl _⟩, rfl, ⟨_, rfl, .refl _⟩, rfl, ⟨_, rfl, ?_⟩, rfl, trivial⟩
            rw [show c = g.w.length by omega, q0ra hx]; exact .refl _
    · simp -implicitDefEqProofs only [go_sem, evR, ints, rows, rat, rats, nodes, intsO, decide_eq_false (show ¬ (i : Int) < (ns.length : Int) by omega)]
      refine he _ _ ?_
      simp -implicitDefEqProofs only [go_sem, evR, ints, rows, rat, rats]
      rw [show i = ns.length by omega, q0r8]; rfl
end

theorem q0qz {g : Gm} {pl : Int} {i : Nat} (h : i < (sets g pl).length) : ∃ (n c : Nat) (x : Nd), (sets g pl)[i]? = some [(n : Int), (c : Int)] /\ g.nd[n]? = some x /\ n < g.nd.length /\ c < g.w.length /\ x.p = pl /\ q0rh g pl i = x.ch.length := by
  have hg := List.getElem?_eq_getElem h
  obtain ⟨n0, hn0, c, hc, e⟩ := q0r5 (List.getElem_mem h)
  obtain ⟨n, rfl, hn, hp⟩ := q0ea hn0
  rw [e] at hg
  have hx : g.nd[n]? = some g.nd[n] := List.getElem?_eq_getElem hn
  have hd : g.nd.getD n nd0 = g.nd[n] := by rw [List.getD_eq_getElem?_getD, hx]; rfl
  refine ⟨n, c, g.nd[n], hg, hx, hn, hc, by rw [← hd]; exact hp, ?_⟩
  have e0 : (sets g pl).getD i [] = [(n : Int), (c : Int)] := by rw [List.getD_eq_getElem?_getD, hg]; rfl
  rw [q0rh, e0, ← hd]; rfl
theorem q0fu {g : Gm} {pl : Int} {pt : List (List Int)} : q0ft g pl pt = true ↔ pt.length = (sets g pl).length /\ ∀ i, i < (sets g pl).length -> q0nt (q0rh g pl i) (pt.getD i []) = true := by
  simp only [q0ft, Bool.and_eq_true, decide_eq_true_eq, List.all_eq_true, List.mem_range]
theorem q0nu {n : Nat} {l : List Int} : q0nt n l = true ↔ l.length = n /\ (l.all fun x => decide (0 <= x /\ x <= 60)) = true /\ l.sum = 60 := by
  simp only [q0nt, Bool.and_eq_true, decide_eq_true_eq, q0u0, and_assoc]
theorem q0re (g : Gm) (pl : Int) (hl : g.nd.length <= 60) (hk : g.w.length <= 6) : (sets g pl).length <= 360 := by
  rw [q0rf]
  have := q0e7 g.nd pl g.nd.length
  have : (idxs g.nd pl g.nd.length).length * g.w.length <= 60 * 6 := Nat.mul_le_mul (by omega) hk
  omega
def strB (g : Gm) (s : Int × List (List Int)) : Bool := q0fl g && decide (0 <= s.1 /\ s.1 <= 1) && q0ft g s.1 s.2
theorem q0fd (g : Gm) (pl : Int) (hl : g.nd.length <= 60) (hk : g.w.length <= 6) : Fun Try.prog 152 [] [.t (.agg [.sh 5 (chunk q0lu g.nd), .sh 1 (g.w.map ints), .sh 1 (g.v.map ints)]), .t (.i pl)] fun o r => o = [] /\ r = q0qa (sets g pl) := q0eo g pl hl hk
theorem q0h9 (g : Gm) (pl : Int) (hl : g.nd.length <= 60) (hk : g.w.length <= 6) : Fun Try.prog 186 [] [.t (.agg [.sh 5 (chunk q0lu g.nd), .sh 1 (g.w.map ints), .sh 1 (g.v.map ints)]), .t (.i pl)] fun o r => o = [] /\ r = q0qa (sets g pl) := q0sf g pl hl hk
section
attribute [-go_sem] q0i5 q0id fldC lenC idxC q0ip
end

section
attribute [-go_sem] q0i5 q0id fldC lenC idxC q0ip
theorem q0fq {f : FuncId} {g : Gm} {b : Bool} (h : Pure Try.prog f [q0ck g] (.b b)) : Pure Try.prog f [.agg [.sh 5 (chunk q0lu g.nd), .sh 1 (g.w.map ints), .sh 1 (g.v.map ints)]] (.b b) := h
end

theorem q0o4 {g : Gm} {i a b : Nat} {x : Nd} {r : List Int} {y : Int} (hx : g.nd[i]? = some x) (hr : g.v[a]? = some r) (hy : r[b]? = some y) : pay g i a b = if (if x.f = 0 then -1 else if x.f = 1 then 1 else y) = 1 then x.b else if (if x.f = 0 then -1 else if x.f = 1 then 1 else y) = -1 then -x.a else 0 := by
  have e1 : g.nd.getD i nd0 = x := by rw [List.getD_eq_getElem?_getD, hx]; rfl
  have e2 : (g.v.getD a []).getD b 0 = y := by rw [List.getD_eq_getElem?_getD, List.getD_eq_getElem?_getD, hr, Option.getD_some, hy]; rfl
  rw [pay, e1, e2]
theorem q0cl {g : Gm} (hg : q0fl g = true) {a b : Nat} (ha : a < g.w.length) (hb : b < g.w.length) : ∃ r y, g.v[a]? = some r /\ r[b]? = some y := by
  obtain ⟨h1, h2⟩ := q0js.1 (q0fn hg).2.2.2.1
  have hx := List.getElem?_eq_getElem (show a < g.v.length by omega)
  have h3 := (h2 _ (List.getElem_mem (show a < g.v.length by omega))).1
  exact ⟨_, _, hx, List.getElem?_eq_getElem (by omega)⟩
theorem q0cn {g : Gm} (hg : q0fl g = true) {a b : Nat} (ha : a < g.w.length) (hb : b < g.w.length) : ∃ r y, g.w[a]? = some r /\ r[b]? = some y /\ 0 <= y /\ y <= 9 := by
  obtain ⟨h1, h2⟩ := q0js.1 (q0fn hg).2.2.1
  have hx := List.getElem?_eq_getElem ha
  obtain ⟨h3, h4⟩ := h2 _ (List.getElem_mem ha)
  have hl : b < g.w[a].length := by omega
  exact ⟨_, _, hx, List.getElem?_eq_getElem hl, h4 _ (List.getElem_mem hl)⟩
theorem q0oi : ∀ {p q : Nat}, p <= q -> pw p <= pw q := by
  intro p q h
  induction h with
  | refl => exact Int.le_refl _
  | step h ih => rw [q0ol]; have := q0ok (p := ‹Nat›); omega
section
attribute [-go_sem] q0i5 q0id fldC lenC idxC q0ip
theorem q0ew (g : Gm) (hg : q0fl g = true) (i a b : Nat) (hi : i < g.nd.length) (ha : a < g.w.length) (hb : b < g.w.length) : Pure Try.prog 213 [q0ck g, .i i, .i a, .i b] (.i (pay g i a b)) := by
  obtain ⟨p1, p2, p3, p4, p5⟩ := q0fn hg
  obtain ⟨t1, t2, t3, t4⟩ := q0g0 p1
  obtain ⟨x, hx⟩ : ∃ x, g.nd[i]? = some x := ⟨_, List.getElem?_eq_getElem hi⟩
  obtain ⟨r, y, hr, hy⟩ := q0cl hg ha hb
  have hf := q0ks (t2 _ _ hx)
  have hal := (List.getElem?_eq_some_iff.1 hr).1
  have hbl := (List.getElem?_eq_some_iff.1 hy).1
  rw [q0o4 hx hr hy]
  refine q0am (by simp) ?_
  simp -implicitDefEqProofs only [go_sem, evR, ints, rows, rat, rats, q03o, q0ck, nodes, q0kw hx, hr, hy]
  refine ⟨by omega, by rw [q0l0]; omega, by rw [q0l0]; omega, by omega, by omega, by omega, by omega, by omega, by omega, ?_⟩
  rw [wrap64 (n := 0 - x.a) (by omega) (by omega), Int.zero_sub]
  by_cases h0 : x.f = 0
  · simp [h0]
  · by_cases h1 : x.f = 1
    · simp [h1]
    · by_cases h2 : y = 1
      · simp [h0, h1, h2]
      · by_cases h3 : y = -1 <;> simp [h0, h1, h2, h3]
theorem q0se (g : Gm) (hg : q0fl g = true) (i a b : Nat) (hi : i < g.nd.length) (ha : a < g.w.length) (hb : b < g.w.length) : Pure Try.prog 215 [q0ck g, .i i, .i a, .i b] (.i (pay g i a b)) := by
  obtain ⟨p1, p2, p3, p4, p5⟩ := q0fn hg
  obtain ⟨t1, t2, t3, t4⟩ := q0g0 p1
  obtain ⟨x, hx⟩ : ∃ x, g.nd[i]? = some x := ⟨_, List.getElem?_eq_getElem hi⟩
  obtain ⟨r, y, hr, hy⟩ := q0cl hg ha hb
  have hf := q0ks (t2 _ _ hx)
  have hal := (List.getElem?_eq_some_iff.1 hr).1
  have hbl := (List.getElem?_eq_some_iff.1 hy).1
  rw [q0o4 hx hr hy]
  refine q0bt (by simp) ?_
  simp -implicitDefEqProofs only [go_sem, evR, ints, rows, rat, rats, q04v, q0ck, nodes, q0kw hx, hr, hy]
  refine ⟨by omega, by rw [q0l0]; omega, by rw [q0l0]; omega, by omega, by omega, by omega, by omega, by omega, by omega, ?_⟩
  rw [wrap64 (n := 0 - x.a) (by omega) (by omega), Int.zero_sub]
  by_cases h0 : x.f = 0
  · simp [h0]
  · by_cases h1 : x.f = 1
    · simp [h1]
    · by_cases h2 : y = 1
      · simp [h0, h1, h2]
      · by_cases h3 : y = -1 <;> simp [h0, h1, h2, h3]
theorem q0ex (p : Nat) (hp : p <= 8) : Pure Try.prog 163 [.i 60, .i p] (.i (pw p)) := by
  refine q0an (by simp) ?_
  simp -implicitDefEqProofs only [go_sem, evR, ints, rows, rat, rats, q03p]
  refine SemC.loopR (σ := Nat) (fun i => St.of [(0, .t (.i 60)), (5, .t (.i (pw i))), (6, .t (.i p)), (7, .t (.i i))] []) (fun i => i <= p) (fun i => p - i) 0 (Weak.of _ [] [] (by simp) (by simp) ?_ trivial) (by omega) fun i hi R hn hr he => ?_
  · simp -implicitDefEqProofs only [ints, rows, Nat.reduceBEq, wkR, Nat.reduceEqDiff, ↓reduceIte, wrR, show pw 0 = 1 from rfl]
  · rcases Nat.lt_or_ge i p with h9 | h9
    · simp -implicitDefEqProofs only [go_sem, evR, ints, rows, rat, rats, decide_eq_true (show (i : Int) < (p : Int) by omega)]
      have hb := q0oi (show i + 1 <= 8 by omega)
      have hb0 := q0ok (p := i + 1)
      have hb8 : pw 8 = 167961600000000 := by decide
      have e : pw i * 60 = pw (i + 1) := by rw [q0ol, Int.mul_comm]
      refine hn _ (i + 1) (Weak.of _ [] [] (by simp) (by simp) ?_ trivial) (by omega) (by omega)
      simp -implicitDefEqProofs only [ints, rows, Nat.reduceBEq, wkR, Nat.reduceEqDiff, ↓reduceIte, wrR, q0lb h9 (by omega), e, wrap64 (n := pw (i + 1)) (by omega) (by omega)]
    · simp -implicitDefEqProofs only [go_sem, evR, ints, rows, rat, rats, decide_eq_false (show ¬ (i : Int) < (p : Int) by omega)]
      refine he _ _ ?_
      simp -implicitDefEqProofs only [go_sem, evR, ints, rows, rat, rats]
      rw [show i = p by omega]
theorem q0sl (p : Nat) (hp : p <= 8) : Pure Try.prog 157 [.i p] (.i (pw p)) := by
  refine q0bz (by simp) ?_
  simp -implicitDefEqProofs only [go_sem, evR, ints, rows, rat, rats, q051]
  refine SemC.loopR (σ := Nat) (fun i => St.of [(0, .t (.i ((p - i : Nat) : Int))), (3, .t (.i (pw i)))] []) (fun i => i <= p) (fun i => p - i) 0 (Weak.of _ [] [] (by simp) (by simp) ?_ trivial) (by omega) fun i hi R hn hr he => ?_
  · simp -implicitDefEqProofs only [ints, rows, Nat.reduceBEq, wkR, Nat.reduceEqDiff, ↓reduceIte, wrR, show pw 0 = 1 from rfl, Nat.sub_zero]
  · rcases Nat.lt_or_ge i p with h9 | h9
    · simp -implicitDefEqProofs only [go_sem, evR, ints, rows, rat, rats, decide_eq_true (show ((p - i : Nat) : Int) > 0 by omega)]
      have hb := q0oi (show i + 1 <= 8 by omega)
      have hb0 := q0ok (p := i + 1)
      have hb8 : pw 8 = 167961600000000 := by decide
      have e : pw i * 60 = pw (i + 1) := by rw [q0ol, Int.mul_comm]
      refine hn _ (i + 1) (Weak.of _ [] [] (by simp) (by simp) ?_ trivial) (by omega) (by omega)
      simp -implicitDefEqProofs only [ints, rows, Nat.reduceBEq, wkR, Nat.reduceEqDiff, ↓reduceIte, wrR, e, wrap64 (n := pw (i + 1)) (by omega) (by omega), wrap64 (n := ((p - (i + 1) : Nat) : Int)) (by omega) (by omega), show ((p - i : Nat) : Int) - 1 = ((p - (i + 1) : Nat) : Int) by omega]
    · simp -implicitDefEqProofs only [go_sem, evR, ints, rows, rat, rats, decide_eq_false (show ¬ ((p - i : Nat) : Int) > 0 by omega)]
      refine he _ _ ?_
      simp -implicitDefEqProofs only [go_sem, evR, ints, rows, rat, rats]
      rw [show i = p by omega]
theorem q080 {f : FuncId} {l : List Nd} {i n : Int} (h : Pure Try.prog f [q0vz l, .i i] (.i n)) : Pure Try.prog f [.agg [.sh 5 (chunk q0lu l)], .i i] (.i n) := h
theorem q0cm {g : Gm} (hg : q0fl g = true) : q0ry g.w /\ dep g.nd g.nd.length 0 = (dpt g : Nat) /\ dpt g <= 5 /\ 0 <= totW g.w /\ totW g.w <= 324 /\ 1 <= pw (dpt g) /\ pw (dpt g) <= 777600000 := by
  obtain ⟨p1, p2, p3, p4, p5⟩ := q0fn hg
  obtain ⟨t1, t2, t3, t4⟩ := q0g0 p1
  have hs := q0rz p3 p2.2
  have hd0 := q07x (l := g.nd) g.nd.length 0
  have hd : dpt g <= 5 := by unfold dpt; omega
  have hb := q0vk hs g.w.length
  rw [List.take_length] at hb
  have h1 := q0oi hd
  have h2 := q0ok (p := dpt g)
  have h5 : pw 5 = 777600000 := by decide
  exact ⟨hs, by unfold dpt; omega, hd, hb.1, hb.2, by omega, by omega⟩
theorem q0e6 {l : List Nd} {pl : Int} {i n : Nat} (hi : i < n) (hp : (l.getD i nd0).p = pl) {j : Nat} {y : Int} (hj : j <= (idxs l pl i).length) (hy : (idxs l pl n)[j]? = some y) : (y = i ↔ j = (idxs l pl i).length) := by
  obtain ⟨rest, e⟩ := q0eb l pl hp n hi
  rw [e] at hy
  rcases Nat.lt_or_ge j (idxs l pl i).length with h | h
  · rw [List.getElem?_append_left h] at hy
    obtain ⟨k, rfl, hk, _⟩ := q0ea (List.mem_of_getElem? hy)
    constructor
    · intro h1; omega
    · intro h1; omega
  · rw [List.getElem?_append_right h, show j - (idxs l pl i).length = 0 by omega] at hy
    have : (i : Int) = y := by simpa using hy
    constructor
    · intro; omega
    · intro; omega
theorem q0e8 {l : List Nd} {pl : Int} {i n : Nat} (hi : i < n) (hp : (l.getD i nd0).p = pl) : (idxs l pl i).length < (idxs l pl n).length := by
  obtain ⟨rest, e⟩ := q0eb l pl hp n hi
  rw [e]; simp
theorem q0sm (g : Gm) (hg : q0fl g = true) (pl : Int) (i c : Nat) (hi : i < g.nd.length) (hp : (g.nd.getD i nd0).p = pl) (hc : c < g.w.length) : Pure Try.prog 221 [q0ck g, .i pl, .i i, .i c] (.i (setI g pl i c)) := by
  obtain ⟨p1, p2, p3, p4, p5⟩ := q0fn hg
  obtain ⟨t1, t2, t3, t4⟩ := q0g0 p1
  have hlt := q0e8 hi hp
  have hbf : ∀ {j : Nat} {y : Int}, j <= (idxs g.nd pl i).length -> (idxs g.nd pl g.nd.length)[j]? = some y -> (y = i ↔ j = (idxs g.nd pl i).length) := fun hj hy => q0e6 hi hp hj hy
  have hlen := q0e7 g.nd pl g.nd.length
  refine q0c0 (by simp) ?_
  simp -implicitDefEqProofs only [go_sem, evR, ints, rows, rat, rats, q052, q0ck, nodes]
  refine q006.res (q0sb g.nd pl (by omega)) [] rfl Try.call220 ?_ (.inl rfl) ?_
  · simp -implicitDefEqProofs only [agR, Nat.reduceLeDiff, Nat.reduceSub, vaR, go_sem, ints, rows, rat, rats, q0p1, rtR, intsO, q0qa]
  simp -implicitDefEqProofs only [clR, Nat.reduceLeDiff, go_sem, evR, rat, intsO]
  unfold setI
  generalize idxs g.nd pl g.nd.length = ns at hlt hbf hlen ⊢
  generalize hm : (idxs g.nd pl i).length = m at hlt hbf ⊢
  refine SemC.loopR (σ := Nat) (fun j => St.of [(2, .t (.i i)), (3, .t (.i c)), (4, .own 4), (9, .own 14), (10, .t (.i j))] [(4, .box [nodes g.nd, rows g.w, rows g.v]), (14, intsO ns)]) (fun j => j <= m) (fun j => m - j) 0 (Weak.of _ _ [some 4, some 14] (by simp) (by simp) ?_ ?_) (by omega) fun j hj R hn hr he => ?_
  · simp -implicitDefEqProofs only [ints, rows, Nat.reduceBEq, wkR, Nat.reduceEqDiff, ↓reduceIte, wrR, nodes]
  · exact ⟨⟨_, rfl, .refl _⟩, rfl, ⟨_, rfl, .refl _⟩, rfl, trivial⟩
  · obtain ⟨y, hy⟩ : ∃ y, ns[j]? = some y := ⟨_, List.getElem?_eq_getElem (by omega)⟩
    have hiff := hbf hj hy
    have hmul : j * g.w.length <= 60 * 6 := Nat.mul_le_mul (by omega) p2.2
    have hcast : (j : Int) * (g.w.length : Int) = ((j * g.w.length : Nat) : Int) := by rw [Int.natCast_mul]
    simp -implicitDefEqProofs only [go_sem, evR, ints, rows, rat, rats, nodes, intsO, hy, decide_eq_true (show (j : Int) < (ns.length : Int) by omega)]
    refine ⟨by omega, by omega, by omega, fun h1 => hr _ ?_, fun h1 => hn _ (j + 1) (Weak.of _ _ [some 4, some 14] (by simp) (by simp) ?_ ?_) ?_ ?_⟩
    · have h1 : j = m := hiff.1 (by simpa using h1)
      simp -implicitDefEqProofs only [go_sem, evR, ints, rows, rat, rats, hcast, wrap64 (n := ((j * g.w.length : Nat) : Int)) (by omega) (by omega), wrap64 (n := ((j * g.w.length : Nat) : Int) + (c : Int)) (by omega) (by omega)]
      rw [h1]; rfl
    · simp -implicitDefEqProofs only [ints, rows, Nat.reduceBEq, wkR, Nat.reduceEqDiff, ↓reduceIte, wrR, nodes, intsO, q0lb (show j < ns.length by omega) (by omega)]
    · exact ⟨⟨_, rfl, .refl _⟩, rfl, ⟨_, rfl, .refl _⟩, rfl, trivial⟩
    · have h1 : ¬ j = m := fun h => by have := hiff.2 h; simp at h1; omega
      omega
    · have h1 : ¬ j = m := fun h => by have := hiff.2 h; simp at h1; omega
      omega
end

def mx0 (l : List Int) : Int := l.foldl max 0
def half (l : List Int) : List Int := l.map fun x => x / 2
def hvd : Nat -> List Int -> List Int
  | 0, l => l
  | f + 1, l => if mx0 l <= 1000000000 then l else hvd f (half l)

theorem q0km {l : List Int} {b : Int} (hb : 0 <= b) : (∀ x ∈ l, x <= b) -> mx0 l <= b := by
  unfold mx0
  suffices ∀ (a : Int), a <= b -> (∀ x ∈ l, x <= b) -> l.foldl max a <= b from this 0 hb
  induction l with
  | nil => intro a ha _; simpa using ha
  | cons x l ih => intro a ha h; exact ih (max a x) (by have := h x (by simp); omega) fun y hy => h y (by simp [hy])
theorem q09o (l : List Int) : ∀ (a : Int), a <= l.foldl max a := by
  induction l with
  | nil => intro a; simp
  | cons x l ih => intro a; have := ih (max a x); simp only [List.foldl_cons]; omega
theorem q0kn (l : List Int) (x : Int) : mx0 (l ++ [x]) = max (mx0 l) x := by simp [mx0, List.foldl_append]
theorem q0k1 {l : List Int} (h0 : l ≠ []) (h : ∀ x ∈ l, 0 <= x) : maxL l = mx0 l := by
  cases l with
  | nil => exact absurd rfl h0
  | cons x l => have := h x (by simp); simp [maxL, mx0, Int.max_eq_right this]
def okW (b : Int) (l : List Int) : Prop := ∀ x ∈ l, 0 <= x /\ x < b
theorem q0ma {l : List Int} {b : Int} (h : okW (2 * b) l) : okW b (half l) := by
  intro x hx
  obtain ⟨y, hy, rfl⟩ := List.mem_map.1 hx
  have := h y hy
  omega
theorem q0dl (l : List Int) : (half l).length = l.length := by simp [half]
def q0dt (l : List Int) (i : Nat) : List Int := half (l.take i) ++ l.drop i
theorem q0dw (l : List Int) (i : Nat) (h : i <= l.length) : (q0dt l i).length = l.length := by simp [q0dt, half]; omega
theorem q0dv {l : List Int} {i : Nat} (h : i < l.length) : (q0dt l i)[i]? = some l[i] := by
  rw [q0dt, List.getElem?_append_right (by simp [half]; omega)]
  simp [half, h, Nat.min_eq_left (Nat.le_of_lt h)]
theorem q0dx {l : List Int} {i : Nat} (h : i < l.length) : ((q0dt l i).map T.i).set i (T.i (l[i] / 2)) = (q0dt l (i + 1)).map T.i := by
  rw [← List.map_set, q0dt, q0dt, List.take_succ_eq_append_getElem h, List.drop_eq_getElem_cons h, List.set_append_right _ _ (by simp [half]; omega)]
  have : i - (half (l.take i)).length = 0 := by simp [half]; omega
  rw [this]
  simp only [half, List.map_append, List.map_cons, List.map_nil, List.set_cons_zero, List.append_assoc, List.cons_append, List.nil_append]
theorem q0dy (l : List Int) : q0dt l 0 = l := by simp [q0dt, half]
theorem q0du (l : List Int) : q0dt l l.length = half l := by simp [q0dt]
theorem q0xr {x : Int} (h : 0 <= x) (h1 : x < 9223372036854775808) : IntKind.i64.wrap (x.tdiv 2) = x / 2 := by
  rw [Int.tdiv_eq_ediv_of_nonneg h, wrap64 (by omega) (by omega)]
def W (f : Nat) : Int := ((2 ^ (29 + f) : Nat) : Int)
theorem q00f (f : Nat) : W (f + 1) = 2 * W f := by unfold W; rw [show 29 + (f + 1) = (29 + f) + 1 by omega, Nat.pow_succ]; omega
theorem W_le (f : Nat) (h : f <= 34) : W f <= 9223372036854775808 := by
  have : 2 ^ (29 + f) <= 2 ^ 63 := Nat.pow_le_pow_right (by omega) (by omega)
  unfold W
  have h2 : (2 : Nat) ^ 63 = 9223372036854775808 := by decide
  omega

theorem q0em (l : List Int) (hl0 : l ≠ []) (hl : l.length <= 1000000000000) (hw : okW 9223372036854775808 l) : Fun Try.prog 211 [] [.t (ints l)] fun o r => o = [] /\ r = intsO (hvd 34 l) := by
  refine q0af (by simp) ?_
  simp -implicitDefEqProofs only [q03h, go_sem]
  refine q006.res (q0rq l hl) [] rfl Try.call197 ?_ (.inl rfl) ?_
  · simp -implicitDefEqProofs only [agR, Nat.reduceLeDiff, Nat.reduceSub, vaR, go_sem, ints, rows, rat, rats, q0p1, rtR, intsO, q0qa]
  simp -implicitDefEqProofs only [clR, Nat.reduceLeDiff, go_sem]
  refine SemC.loopR (σ := Nat × List Int) (fun s => St.of [(3, .own 6)] [(6, intsO s.2)]) (fun s => s.1 <= 34 /\ s.2 ≠ [] /\ s.2.length <= 1000000000000 /\ okW (W s.1) s.2 /\ hvd s.1 s.2 = hvd 34 l) (fun s => s.1) (34, l) (Weak.of _ _ [some 6] (by simp) (by simp) ?_ ?_) ⟨by simp, hl0, hl, hw, rfl⟩ fun s hI R hn hr he => ?_
  · simp -implicitDefEqProofs only [ints, Nat.reduceBEq, wkR, Nat.reduceEqDiff, ↓reduceIte, wrR]
  · exact ⟨⟨_, rfl, .refl _⟩, rfl, trivial⟩
  · obtain ⟨f, m⟩ := s
    obtain ⟨hf, hm0, hml, hmw, hmv⟩ := hI
    simp only [] at hf hm0 hml hmw hmv
    have hpos : 0 < m.length := List.length_pos_iff.2 hm0
    have hmx := q0k1 hm0 fun x hx => (hmw x hx).1
    simp -implicitDefEqProofs only [go_sem, evR, ints, rows, rat, rats]
    refine q006.pure (q0rt m hm0 hml) [6] rfl Try.call106 ?_ trivial rfl ?_
    · simp -implicitDefEqProofs only [agR, Nat.reduceLeDiff, Nat.reduceSub, vaR, go_sem, ints, rows, rat, rats, q0p1, rtR, intsO, q0qa]
    simp -implicitDefEqProofs only [go_sem, evR, ints, rows, rat, rats, intsO]
    rw [hmx]
    refine ⟨fun h => ?_, fun h => he _ _ ?_⟩
    · obtain ⟨g, rfl⟩ : ∃ g, f = g + 1 := by
        cases f with
        | zero => have : mx0 m <= 1000000000 := q0km (by omega) fun x hx => by have := (hmw x hx).2; simp [W] at this; omega
                  omega
        | succ g => exact ⟨g, rfl⟩
      have hWg := W_le (g + 1) hf
      refine SemC.loopR (σ := Nat) (fun i => St.of [(3, .own 6), (11, .t (.i m.length)), (12, .t (.i i))] [(6, .arr 1 ((q0dt m i).map T.i))]) (fun i => i <= m.length) (fun i => m.length - i) 0 (Weak.of _ _ [some 6] (by simp) (by simp) ?_ ?_) (by simp) fun i hi R2 hn2 hr2 he2 => ?_
      · simp -implicitDefEqProofs only [ints, Nat.reduceBEq, wkR, Nat.reduceEqDiff, ↓reduceIte, wrR]
      · exact ⟨⟨_, rfl, by rw [q0dy]; exact .refl _⟩, rfl, trivial⟩
      · have hlen := q0dw m i hi
        simp -implicitDefEqProofs only [go_sem, evR, ints, rows, rat, rats, hlen]
        refine ⟨fun h1 => ?_, fun h1 => he2 _ _ ?_⟩
        · have hi' : i < m.length := by omega
          refine ⟨by omega, by omega, by omega, fun x hx => ?_⟩
          rw [q0dv hi'] at hx
          cases hx
          have hx := hmw m[i] (List.getElem_mem _)
          simp -implicitDefEqProofs only [go_sem, evR, ints, rows, rat, rats, hlen, q0il, Value.oneCell', q0t9, List.filter_nil, q0xr hx.1 (by omega), q0dx hi']
          refine ⟨by omega, by omega, by omega, by omega, hn2 _ (i + 1) (Weak.of _ _ [some 6] (by simp) (by simp) ?_ ?_) (by omega) (by omega)⟩
          · simp -implicitDefEqProofs only [ints, Nat.reduceBEq, wkR, Nat.reduceEqDiff, ↓reduceIte, wrR, q0lb hi' hml]
          · exact ⟨⟨_, rfl, .refl _⟩, rfl, trivial⟩
        · simp -implicitDefEqProofs only [go_sem, evR, ints, rows, rat, rats, hlen]
          have e : i = m.length := by omega
          subst e
          refine hn _ (g, half m) (Weak.of _ _ [some 6] (by simp) (by simp) ?_ ?_) ⟨by simp only []; omega, ?_, by rw [q0dl]; exact hml, q0ma (by rw [← q00f]; exact hmw), ?_⟩ (by simp only []; omega)
          · simp -implicitDefEqProofs only [ints, Nat.reduceBEq, wkR, Nat.reduceEqDiff, ↓reduceIte, wrR]
          · exact ⟨⟨_, rfl, by rw [q0du]; exact .refl _⟩, rfl, trivial⟩
          · simpa [half] using hm0
          · rw [hvd, if_neg (by omega)] at hmv
            exact hmv
    · simp -implicitDefEqProofs only [go_sem, evR, ints, rows, rat, rats]
      have : hvd f m = m := by
        cases f with
        | zero => rfl
        | succ g => rw [hvd, if_pos (by omega)]
      rw [← hmv, this]
      rfl

theorem q0sw (l : List Int) (hl : l.length <= 1000000000000) (hw : okW 9223372036854775808 l) : Fun Try.prog 173 [] [.t (ints l)] fun o r => o = [] /\ r = intsO (hvd 34 l) := by
  refine q0c9 (by simp) ?_
  simp -implicitDefEqProofs only [q05b, go_sem]
  refine q006.res (q0s5 l hl) [] rfl Try.call167 ?_ (.inl rfl) ?_
  · simp -implicitDefEqProofs only [agR, Nat.reduceLeDiff, Nat.reduceSub, vaR, go_sem, ints, rows, rat, rats, q0p1, rtR, intsO, q0qa]
  simp -implicitDefEqProofs only [clR, Nat.reduceLeDiff, go_sem]
  refine SemC.loopR (σ := Nat × List Int) (fun s => St.of [(3, .own 8)] [(8, intsO s.2)]) (fun s => s.1 <= 34 /\ s.2.length <= 1000000000000 /\ okW (W s.1) s.2 /\ hvd s.1 s.2 = hvd 34 l) (fun s => s.1) (34, l) (Weak.of _ _ [some 8] (by simp) (by simp) ?_ ?_) ⟨by simp, hl, hw, rfl⟩ fun s hI R hn hr he => ?_
  · simp -implicitDefEqProofs only [ints, Nat.reduceBEq, wkR, Nat.reduceEqDiff, ↓reduceIte, wrR]
  · exact ⟨⟨_, rfl, .refl _⟩, rfl, trivial⟩
  · obtain ⟨f, m⟩ := s
    obtain ⟨hf, hml, hmw, hmv⟩ := hI
    (try simp only [] at hf hml hmw hmv)
    simp -implicitDefEqProofs only [go_sem, evR, ints, rows, rat, rats, intsO]
    refine SemC.loopR (σ := Nat) (fun i => St.of [(3, .own 8), (4, .t (.i (mx0 (m.take i)))), (5, .t (.i i))] [(8, .arr 1 (m.map T.i))]) (fun i => i <= m.length) (fun i => m.length - i) 0 (Weak.of _ _ [some 8] (by simp) (by simp) ?_ ?_) (by simp) fun i hi R2 hn2 hr2 he2 => ?_
    · simp -implicitDefEqProofs only [ints, Nat.reduceBEq, wkR, Nat.reduceEqDiff, ↓reduceIte, wrR, show mx0 (m.take 0) = 0 from rfl]
    · exact ⟨⟨_, rfl, .refl _⟩, rfl, trivial⟩
    · simp -implicitDefEqProofs only [go_sem, evR, ints, rows, rat, rats]
      refine ⟨fun h1 => ⟨by omega, by omega, by omega, fun x hx => ?_⟩, fun h1 => he2 _ _ ?_⟩
      · refine hn2 _ (i + 1) (Weak.of _ _ [some 8] (by simp) (by simp) ?_ ?_) (by omega) (by omega)
        · simp -implicitDefEqProofs only [ints, Nat.reduceBEq, wkR, Nat.reduceEqDiff, ↓reduceIte, wrR, q0lb (by omega : i < m.length) hml, q0uj hx, q0kn]
        · exact ⟨⟨_, rfl, .refl _⟩, rfl, trivial⟩
      · have e : i = m.length := by omega
        subst e
        simp -implicitDefEqProofs only [go_sem, evR, ints, rows, rat, rats, List.take_length]
        refine ⟨fun h => hr _ ?_, fun h => ?_⟩
        · simp -implicitDefEqProofs only [go_sem, evR, ints, rows, rat, rats]
          have : hvd f m = m := by
            cases f with
            | zero => rfl
            | succ g => rw [hvd, if_pos h]
          rw [← hmv, this]
          rfl
        · obtain ⟨g, rfl⟩ : ∃ g, f = g + 1 := by
            cases f with
            | zero => have : mx0 m <= 1000000000 := q0km (by omega) fun x hx => by have := (hmw x hx).2; simp [W] at this; omega
                      omega
            | succ g => exact ⟨g, rfl⟩
          have hWg := W_le (g + 1) hf
          refine SemC.loopR (σ := Nat) (fun i => St.of [(3, .own 8), (6, .t (.i i))] [(8, .arr 1 ((q0dt m i).map T.i))]) (fun i => i <= m.length) (fun i => m.length - i) 0 (Weak.of _ _ [some 8] (by simp) (by simp) ?_ ?_) (by simp) fun i hi R3 hn3 hr3 he3 => ?_
          · simp -implicitDefEqProofs only [ints, Nat.reduceBEq, wkR, Nat.reduceEqDiff, ↓reduceIte, wrR]
          · exact ⟨⟨_, rfl, by rw [q0dy]; exact .refl _⟩, rfl, trivial⟩
          · have hlen := q0dw m i hi
            simp -implicitDefEqProofs only [go_sem, evR, ints, rows, rat, rats, hlen]
            refine ⟨fun h1 => ?_, fun h1 => he3 _ _ ?_⟩
            · have hi' : i < m.length := by omega
              refine ⟨by omega, by omega, by omega, fun x hx => ?_⟩
              rw [q0dv hi'] at hx
              cases hx
              have hx := hmw m[i] (List.getElem_mem _)
              simp -implicitDefEqProofs only [go_sem, evR, ints, rows, rat, rats, hlen, q0il, Value.oneCell', q0t9, List.filter_nil, q0xr hx.1 (by omega), q0dx hi']
              refine ⟨by omega, by omega, by omega, by omega, hn3 _ (i + 1) (Weak.of _ _ [some 8] (by simp) (by simp) ?_ ?_) (by omega) (by omega)⟩
              · simp -implicitDefEqProofs only [ints, Nat.reduceBEq, wkR, Nat.reduceEqDiff, ↓reduceIte, wrR, q0lb hi' hml]
              · exact ⟨⟨_, rfl, .refl _⟩, rfl, trivial⟩
            · simp -implicitDefEqProofs only [go_sem, evR, ints, rows, rat, rats, hlen]
              have e : i = m.length := by omega
              subst e
              refine hn _ (g, half m) (Weak.of _ _ [some 8] (by simp) (by simp) ?_ ?_) ⟨by simp only []; omega, by rw [q0dl]; exact hml, q0ma (by rw [← q00f]; exact hmw), ?_⟩ (by simp only []; omega)
              · simp -implicitDefEqProofs only [ints, Nat.reduceBEq, wkR, Nat.reduceEqDiff, ↓reduceIte, wrR]
              · exact ⟨⟨_, rfl, by rw [q0du]; exact .refl _⟩, rfl, trivial⟩
              · rw [hvd, if_neg (by omega)] at hmv
                exact hmv

def hw (l : List Int) : List Int × Int := if 1 <= l.length /\ l.length <= 4 /\ ∀ x ∈ l, 0 <= x then (hvd 34 l, 0) else ([], 2)

theorem q0dz : ∀ (f : Nat) (l : List Int), (hvd f l).length = l.length
  | 0, l => rfl
  | f + 1, l => by
    rw [hvd]
    split
    · rfl
    · rw [q0dz f, q0dl]

def tot : List (List Int) -> Nat
  | [] => 0
  | r :: m => r.length + tot m
def q13p : List (List Int) -> Int -> List (List Int)
  | [], _ => []
  | r :: m, k => marks r.length k :: q13p m (k + r.length)
theorem q13r : ∀ (m : List (List Int)) (k : Int), (q13p m k).length = m.length
  | [], _ => rfl
  | r :: m, k => by simp [q13p, q13r m]
theorem q140 : ∀ (m m' : List (List Int)), tot (m ++ m') = tot m + tot m'
  | [], m' => by simp [tot]
  | r :: m, m' => by simp [tot, q140 m]; omega
theorem q13q : ∀ (m m' : List (List Int)) (k : Int), q13p (m ++ m') k = q13p m k ++ q13p m' (k + tot m)
  | [], m', k => by simp [q13p, tot]
  | r :: m, m', k => by simp only [List.cons_append, q13p, q13q m, tot]; rw [show k + (r.length : Int) + (tot m : Int) = k + ((r.length + tot m : Nat) : Int) by omega]
theorem q0vn : ∀ {m : List (List Int)} {r : List Int}, r ∈ m -> r.length <= tot m
  | r' :: m, r, h => by
    rcases List.mem_cons.1 h with rfl | h
    · simp [tot]
    · have := q0vn h; simp only [tot]; omega

theorem q13i (m : List (List Int)) (k : Int) (hm : m.length <= 1000000000000) (ht : tot m <= 100000000000) (h0 : 0 <= k) (h1 : k <= 100000000000) :
    Fun Try.prog 27 [q0qa m] [.own 1000000000, .t (.i k)] fun o r => o = [q0qa (q13p m k)] /\ r = .i (k + tot m) := by
  refine q13a (by simp) ?_
  simp -implicitDefEqProofs only [go_sem, evR, ints, rows, rat, rats, q132, q0qa]
  refine SemC.loopR (σ := Nat) (fun i => St.of [(0, .own 1000000000), (1, .t (.i (k + tot (m.take i)))), (5, .t (.i i))] [(1000000000, .arr 1 ((q13p (m.take i) k ++ m.drop i).map intsO))]) (fun i => i <= m.length) (fun i => m.length - i) 0 (Weak.of _ _ [some 1000000000] (by simp) (by simp) ?_ ?_) (by simp) fun i hI R hn hr he => ?_
  · simp -implicitDefEqProofs only [ints, rows, Nat.reduceBEq, wkR, Nat.reduceEqDiff, ↓reduceIte, wrR, List.take_zero, tot, Int.add_zero]
  · exact ⟨⟨_, rfl, .refl _⟩, rfl, trivial⟩
  · have hlen : (q13p (m.take i) k ++ m.drop i).length = m.length := by simp [q13r]; omega
    simp -implicitDefEqProofs only [go_sem, evR, ints, rows, rat, rats, hlen, intsO]
    refine ⟨fun h => ⟨by omega, by omega, by omega, fun r hrow => ?_⟩, fun h => he _ _ ?_⟩
    · have hi : i < m.length := by omega
      have hr0 : m[i]? = some r := by
        rw [List.getElem?_append_right (by rw [q13r, List.length_take]; omega), q13r, List.length_take, show i - min i m.length = 0 by omega, List.getElem?_drop] at hrow
        simpa using hrow
      have htk : tot (m.take i) + r.length <= tot m := by
        have e := q140 (m.take (i + 1)) (m.drop (i + 1))
        rw [List.take_append_drop, q0uj hr0, q140] at e
        simp only [tot] at e; omega
      have e1 : k + (tot (m.take (i + 1)) : Int) = k + (tot (m.take i) : Int) + (r.length : Int) := by
        rw [q0uj hr0, q140]; simp only [tot]; omega
      refine q006.ref (q13j r (k + tot (m.take i)) (by omega) (by omega) (by omega)) [15] [] rfl Try.call49 (by simp) ?_ (by simp) ?_ (.inl rfl) ?_
      · simp -implicitDefEqProofs only [srR, Nat.reduceEqDiff, ↓reduceIte, ints, rows, intsO, q0qa]
      · simp -implicitDefEqProofs only [agR, Nat.reduceLeDiff, Nat.reduceSub, vaR, go_sem, ints, rows, rat, rats, q0p1, rtR, intsO, q0qa]
      simp -implicitDefEqProofs only [clR, Nat.reduceLeDiff, go_sem, evR, rat, intsO]
      refine hn _ (i + 1) (Weak.trans (Weak.join2 Try.prog q0wk (sl 14) (sl 15) rfl rfl rfl rfl (by decide) ?_) (Weak.of _ _ [some 1000000000] (by simp) (by simp) ?_ ?_)) (by omega) (by omega)
      · rw [List.length_set, List.length_map, hlen]; omega
      · simp -implicitDefEqProofs only [ints, rows, Nat.reduceBEq, wkR, Nat.reduceEqDiff, ↓reduceIte, wrR, e1, q0lb (by omega : i < m.length) hm]
      · refine ⟨⟨_, rfl, ?_⟩, rfl, trivial⟩
        rw [q0t9, List.set_set, q0uj hr0, q13q]
        simp only [q13p, List.append_assoc, List.cons_append, List.nil_append]
        rw [List.drop_eq_getElem_cons hi, List.map_append, List.set_append_right _ _ (by rw [List.length_map, q13r, List.length_take]; omega), List.length_map, q13r, List.length_take, show i - min i m.length = 0 by omega, List.map_append]
        exact .refl _
    · simp -implicitDefEqProofs only [go_sem, evR, ints, rows, rat, rats]
      have : i = m.length := by omega
      subst this
      simp [q0qa]

theorem q02v : ∀ {m : List (List Int)} {left : Int}, 0 <= left -> 0 <= q02t m left -> (tot m : Int) <= left
  | [], left, _, _ => by simp [tot]; assumption
  | x :: m, left, h0, h => by
    simp only [q02t] at h
    split at h
    · omega
    · have := q02v (by omega) h
      simp only [tot]; omega
theorem q02s {m : List (List Int)} {left : Int} (h0 : 0 <= left) (h : 0 <= q02q m left) : (tot m : Int) <= left := by
  simp only [q02q] at h
  split at h
  · omega
  · have := q02v (by omega) h; omega

def q0ly (x : Nd) : T := .agg (q0lu x)
def q0cg (g : Gm) : T := .agg [q0m0 g.nd, q0qa g.w, q0qa g.v]
def q0tt (s : Int × List (List Int)) : T := .agg [.i s.1, q0qa s.2]
def q06f (c : Cl) : T := .agg [.i c.f.1, q0qa c.f.2, .i c.s.1, q0qa c.s.2, .i c.lo, .i c.hi]
theorem q0m1 (l : List Nd) : (q0m0 l).toSh = nodes l := by
  show T.sh 5 (T.toShL (chunk q0lv l)) = T.sh 5 (chunk q0lu l)
  congr 1
  induction l with
  | nil => rfl
  | cons x l ih =>
    rw [q069, q069, T.toShL_eq_map, List.map_append, ← T.toShL_eq_map (chunk q0lv l), ih]
    congr 1
    show [T.i x.p, .i x.a, .i x.b, .i x.f, (intsO x.ch).toSh] = _
    rw [q0fi]; rfl
theorem q0vh (l : List Nd) : T.toShL (chunk q0lv l) = chunk q0lu l := by
  have := q0m1 l
  simpa [q0m0, nodes, T.toSh] using this
attribute [go_sem] q0vh
def chs (l : List Nd) : List (List Int) := l.map Nd.ch
theorem q0ko {m : List (List Int)} {left : Int} (h : -1 <= left) : -1 <= q02q m left /\ (q02q m left <= left ∨ q02q m left = -1) := by
  have key : ∀ (m : List (List Int)) (left : Int), -1 <= left -> -1 <= q02t m left /\ (q02t m left <= left ∨ q02t m left = -1) := by
    intro m
    induction m with
    | nil => intro left h; exact ⟨h, .inl (Int.le_refl _)⟩
    | cons r m ih =>
      intro left h
      simp only [q02t]
      split
      · omega
      · have := ih (left - r.length) (by omega); omega
  unfold q02q
  split
  · omega
  · have := key m (left - m.length) (by omega); omega
section
attribute [-go_sem] q0i5 q0id fldC lenC idxC q0ip
theorem q0ho (x : Nd) (left : Int) (hl : x.ch.length <= 9223372036854775807) (h0 : -1 <= left) (h1 : left <= 1000000000000) : Pure Try.prog 201 [q0ly x, .i left] (.i (budget x.ch.length left)) := by
  refine q0b5 (by simp) ?_
  simp -implicitDefEqProofs only [go_sem, evR, ints, rows, rat, rats, q047, q0ly, q0lu]
  refine q006.pure (q0hm x.ch left (by omega) (by omega) (by omega)) [] rfl Try.call155 ?_ (by first | trivial | simp [T.noSh, T.noShL, rat]) rfl ?_
  · simp -implicitDefEqProofs only [agR, Nat.reduceLeDiff, Nat.reduceSub, vaR, go_sem, ints, rows, rat, rats, q0p1, rtR, intsO, q0qa]
  simp -implicitDefEqProofs only [go_sem, evR, ints, rows, rat, rats]
  refine ⟨fun h => ?_, fun h => trivial⟩
  rw [budget] at h ⊢
  split at h
  · rename_i h2; rw [if_pos h2]
  · omega
theorem q0uf (x : Nd) (left : Int) (hl : x.ch.length <= 9223372036854775807) (h0 : -1 <= left) (h1 : left <= 1000000000000) : Pure Try.prog 201 [.agg [.i x.p, .i x.a, .i x.b, .i x.f, .sh 1 (x.ch.map T.i)], .i left] (.i (budget x.ch.length left)) := q0ho x left hl h0 h1
theorem q0hn (l : List Nd) (left : Int) (hm : l.length <= 9223372036854775807) (hr : ∀ x ∈ l, x.ch.length <= 9223372036854775807) (h0 : -1 <= left) (h1 : left <= 1000000000000) :
    Pure Try.prog 154 [nodes l, .i left] (.i (q02q (chs l) left)) := by
  refine q0b6 (by simp) ?_
  simp -implicitDefEqProofs only [go_sem, evR, ints, rows, rat, rats, q048, nodes]
  have hcl : (chs l).length = l.length := by simp [chs]
  rw [wrap64 (by omega) (by omega)]
  refine ⟨fun h => ?_, fun h => ?_⟩
  · rw [q02q, if_pos (by rw [hcl]; exact h)]
  · refine SemC.loopR (σ := Nat × Int) (fun s => St.of [(0, .t (nodes l)), (1, .t (.i s.2)), (5, .t (.i s.1))] []) (fun s => s.1 <= l.length /\ 0 <= s.2 /\ s.2 <= left /\ q02t ((chs l).drop s.1) s.2 = q02q (chs l) left) (fun s => l.length - s.1) (0, left - l.length) (Weak.of _ [] [] (by simp) (by simp) ?_ trivial) ⟨by simp, by simp only []; omega, by simp only []; omega, by rw [q02q, if_neg (by rw [hcl]; exact h), hcl]; rfl⟩ fun s hI R hn hr' he => ?_
    · simp -implicitDefEqProofs only [ints, rows, wkR, Nat.reduceEqDiff, ↓reduceIte, nodes]
    · obtain ⟨i, x⟩ := s
      (try simp only [] at hI)
      obtain ⟨i1, i2, i3, i4⟩ := hI
      rcases Nat.lt_or_ge i l.length with h9 | h9
      · obtain ⟨y, hy⟩ : ∃ y, l[i]? = some y := ⟨_, List.getElem?_eq_getElem h9⟩
        have hyl := hr y (List.mem_of_getElem? hy)
        have hc : (chs l)[i]? = some y.ch := by rw [chs, List.getElem?_map, hy]; rfl
        rw [q08a hc, q02t] at i4
        simp -implicitDefEqProofs only [go_sem, evR, ints, rows, rat, rats, nodes, q0kw hy, decide_eq_true (show (i : Int) < (l.length : Int) by omega)]
        refine ⟨by omega, by rw [q0l0]; omega, by rw [q0l0]; omega, ?_⟩
        refine q006.pure (q0uf y x hyl (by omega) (by omega)) [] rfl Try.call201 ?_ (by first | trivial | simp [T.noSh, T.noShL, rat]) rfl ?_
        · simp -implicitDefEqProofs only [agR, Nat.reduceLeDiff, Nat.reduceSub, vaR, go_sem, ints, rows, rat, rats, q0p1, rtR, intsO, q0qa]
        simp -implicitDefEqProofs only [go_sem, evR, ints, rows, rat, rats]
        refine ⟨fun h2 => hr' _ ?_, fun h2 => hn _ (i + 1, budget y.ch.length x) (Weak.of _ [] [] (by simp) (by simp) ?_ trivial) ?_ (by simp only []; omega)⟩
        · simp -implicitDefEqProofs only [go_sem, evR, ints, rows, rat, rats]
          simp only [budget] at h2
          split at h2
          · rename_i h3; rw [if_pos h3] at i4; rw [i4]
          · omega
        · simp -implicitDefEqProofs only [ints, rows, wkR, Nat.reduceEqDiff, ↓reduceIte, nodes, q0lb h9 (by omega)]
        · simp only [budget] at h2 ⊢
          split at h2
          · omega
          · rename_i h3
            rw [if_neg h3] at i4 ⊢
            exact ⟨by omega, by omega, by omega, i4⟩
      · simp -implicitDefEqProofs only [go_sem, evR, ints, rows, rat, rats, nodes, decide_eq_false (show ¬ (i : Int) < (l.length : Int) by omega)]
        refine he _ _ ?_
        simp -implicitDefEqProofs only [go_sem, evR, ints, rows, rat, rats]
        rw [List.drop_of_length_le (by omega), q02t] at i4
        rw [i4]
theorem q0hp (l : List Nd) (left : Int) (hm : l.length <= 9223372036854775807) (hr : ∀ x ∈ l, x.ch.length <= 9223372036854775807) (h0 : -1 <= left) (h1 : left <= 1000000000000) :
    Pure Try.prog 95 [q0vz l, .i left] (.i (q02q (chs l) left)) := by
  refine q0b4 (by simp) ?_
  simp -implicitDefEqProofs only [go_sem, evR, ints, rows, rat, rats, q046, q0vz, nodes]
  have hp := q0hn l left hm hr h0 h1
  simp only [nodes] at hp
  have hb := q0ko (m := chs l) h0
  refine q006.pure hp [] rfl Try.call154 ?_ (by first | trivial | simp [T.noSh, T.noShL, rat]) rfl ?_
  · simp -implicitDefEqProofs only [agR, Nat.reduceLeDiff, Nat.reduceSub, vaR, go_sem, ints, rows, rat, rats, q0p1, rtR, intsO, q0qa]
  simp -implicitDefEqProofs only [go_sem, evR, ints, rows, rat, rats]
  exact ⟨fun h => by rw [show q02q (chs l) left = -1 by omega], fun _ => trivial⟩
def q02n (g : Gm) (left : Int) : Int :=
  if q02q (chs g.nd) left < 0 then -1 else if q02q g.w (q02q (chs g.nd) left) < 0 then -1 else q02q g.v (q02q g.w (q02q (chs g.nd) left))
theorem q0hk (g : Gm) (left : Int) (hg : q0cf g) (h0 : -1 <= left) (h1 : left <= 1000000000000) : Pure Try.prog 20 [q0ck g, .i left] (.i (q02n g left)) := by
  refine q0b1 (by simp) ?_
  simp -implicitDefEqProofs only [go_sem, evR, ints, rows, rat, rats, q043, q0ck, nodes]
  have hp := q0hp g.nd left hg.1 hg.2.1 h0 h1
  simp only [nodes, q0vz] at hp
  have hb := q0ko (m := chs g.nd) h0
  unfold q02n
  refine q006.pure hp [] rfl Try.call95 ?_ (by first | trivial | simp [T.noSh, T.noShL, rat]) rfl ?_
  · simp -implicitDefEqProofs only [agR, Nat.reduceLeDiff, Nat.reduceSub, vaR, go_sem, ints, rows, rat, rats, q0p1, rtR, intsO, q0qa]
  simp -implicitDefEqProofs only [go_sem, evR, ints, rows, rat, rats]
  refine ⟨fun h => by rw [if_pos h], fun h => ?_⟩
  rw [if_neg h]
  generalize q02q (chs g.nd) left = b at hb h ⊢
  have hb2 := q0ko (m := g.w) hb.1
  refine q006.pure (q0hl g.w b (by have := hg.2.2.1.1; omega) (fun r h => by have := hg.2.2.1.2 r h; omega) (by omega) (by omega)) [] rfl Try.call96 ?_ (by first | trivial | simp [T.noSh, T.noShL, rat]) rfl ?_
  · simp -implicitDefEqProofs only [agR, Nat.reduceLeDiff, Nat.reduceSub, vaR, go_sem, ints, rows, rat, rats, q0p1, rtR, intsO, q0qa]
  simp -implicitDefEqProofs only [go_sem, evR, ints, rows, rat, rats]
  refine ⟨fun h2 => by rw [if_pos h2], fun h2 => ?_⟩
  rw [if_neg h2]
  generalize q02q g.w b = b2 at hb2 h2 ⊢
  have hb3 := q0ko (m := g.v) hb2.1
  refine q006.pure (q0hl g.v b2 (by have := hg.2.2.2.1; omega) (fun r h => by have := hg.2.2.2.2 r h; omega) (by omega) (by omega)) [] rfl Try.call96 ?_ (by first | trivial | simp [T.noSh, T.noShL, rat]) rfl ?_
  · simp -implicitDefEqProofs only [agR, Nat.reduceLeDiff, Nat.reduceSub, vaR, go_sem, ints, rows, rat, rats, q0p1, rtR, intsO, q0qa]
  simp -implicitDefEqProofs only [go_sem, evR, ints, rows, rat, rats]
  exact ⟨fun h => by rw [show q02q g.v b2 = -1 by omega], fun _ => trivial⟩
end

def q0lz : List T := [.i 0, .i 0, .i 0, .i 0, .v (.slice none 0 0)]
def q0lk (l : List Nd) (i : Nat) : List T := chunk q0lv (l.take i) ++ (List.replicate (l.length - i) q0lz).flatten
theorem q0lm (l : List Nd) (i : Nat) (h : i <= l.length) : (q0lk l i).length = l.length * 5 := by
  have e : (List.replicate (l.length - i) q0lz).flatten.length = (l.length - i) * 5 := by
    have key : ∀ n, (List.replicate n q0lz).flatten.length = n * 5 := by
      intro n
      induction n with
      | zero => rfl
      | succ n ih => rw [List.replicate_succ, List.flatten_cons, List.length_append, ih, Nat.add_mul]; simp [q0lz]; omega
    exact key _
  rw [q0lk, List.length_append, e, q06d q0lw, List.length_take, Nat.min_eq_left h]; omega
theorem q0lo (l : List Nd) : made q0lz l.length = q0lk l 0 := by
  rw [q0lk, List.take_zero, q06e, List.nil_append, Nat.sub_zero]
  show (List.range (l.length * 5)).map (fun i => q0lz.getD (i % 5) .any) = _
  generalize l.length = n
  induction n with
  | zero => rfl
  | succ n ih =>
    rw [Nat.add_mul, Nat.one_mul, List.range_add, List.map_append, ih, List.map_map]
    rw [show n + 1 = n + 1 from rfl, List.replicate_succ', List.flatten_append]
    congr 1
    have : ∀ j, (n * 5 + j) % 5 = j % 5 := fun j => by omega
    show (List.range 5).map (fun j => q0lz.getD ((n * 5 + j) % 5) .any) = _
    simp only [this]
    rfl
theorem q0ll (l : List Nd) : q0lk l l.length = chunk q0lv l := by simp [q0lk]
theorem q0ln {l : List Nd} {i : Nat} {x : Nd} (h : l[i]? = some x) : (q0lk l i).take (i * 5) ++ q0lv x ++ (q0lk l i).drop (i * 5 + 5) = q0lk l (i + 1) := by
  obtain ⟨hi, rfl⟩ := List.getElem?_eq_some_iff.1 h
  have e1 : (chunk q0lv (l.take i)).length = i * 5 := by rw [q06d q0lw, List.length_take, Nat.min_eq_left (by omega)]
  have e2 : l.length - i = (l.length - (i + 1)) + 1 := by omega
  rw [q0lk, e2, List.replicate_succ, List.flatten_cons, List.take_left' e1, show i * 5 + 5 = (chunk q0lv (l.take i)).length + 5 by omega, List.drop_length_add_append]
  rw [show List.drop 5 (q0lz ++ (List.replicate (l.length - (i + 1)) q0lz).flatten) = (List.replicate (l.length - (i + 1)) q0lz).flatten from rfl]
  rw [q0lk, q0uj h, q067]
  simp [chunk]
section
attribute [-go_sem] q0i5 q0id fldC lenC idxC q0ip
theorem q0hu (x : Nd) (hl : x.ch.length <= 1000000000000) : Fun Try.prog 204 [] [.t (q0ly x)] fun o r => o = [] /\ r = .agg (q0lv x) := by
  refine q0bb (by simp) ?_
  simp -implicitDefEqProofs only [go_sem, evR, ints, rows, rat, rats, q04d, q0ly, q0lu]
  refine q006.res (q0hs x.ch (by omega)) [] rfl Try.call161 ?_ (.inl rfl) ?_
  · simp -implicitDefEqProofs only [agR, Nat.reduceLeDiff, Nat.reduceSub, vaR, go_sem, ints, rows, rat, rats, q0p1, rtR, intsO, q0qa]
  simp -implicitDefEqProofs only [clR, Nat.reduceLeDiff, go_sem, evR, rat, intsO, opR, Nat.reduceBEq]
  rfl
theorem q0vj (x : Nd) (hl : x.ch.length <= 1000000000000) : Fun Try.prog 204 [] [.t (.agg [.i x.p, .i x.a, .i x.b, .i x.f, .sh 1 (x.ch.map T.i)])] fun o r => o = [] /\ r = .agg [.i x.p, .i x.a, .i x.b, .i x.f, intsO x.ch] := q0hu x hl
theorem q0ht (l : List Nd) (hm : l.length <= 1000000000000) (hr : ∀ x ∈ l, x.ch.length <= 1000000000000) : Fun Try.prog 160 [] [.t (nodes l)] fun o r => o = [] /\ r = q0m0 l := by
  refine q0bc (by simp) ?_
  simp -implicitDefEqProofs only [go_sem, evR, ints, rows, rat, rats, q04e, nodes]
  refine ⟨by omega, by omega, ?_⟩
  refine SemC.loopR (σ := Nat) (fun i => St.of [(0, .t (nodes l)), (3, .own 7), (4, .t (.i i))] [(7, .arr 5 (q0lk l i))]) (fun i => i <= l.length) (fun i => l.length - i) 0 (Weak.of _ _ [some 7] (by simp) (by simp) ?_ ?_) (by simp) fun i hi R hn hr' he => ?_
  · simp -implicitDefEqProofs only [ints, rows, Nat.reduceBEq, wkR, Nat.reduceEqDiff, ↓reduceIte, wrR, nodes]
  · exact ⟨⟨_, rfl, by rw [← q0lo]; exact .refl _⟩, rfl, trivial⟩
  · have hlen := q0lm l i hi
    rcases Nat.lt_or_ge i l.length with h9 | h9
    · obtain ⟨y, hy⟩ : ∃ y, l[i]? = some y := ⟨_, List.getElem?_eq_getElem h9⟩
      simp -implicitDefEqProofs only [go_sem, evR, ints, rows, rat, rats, nodes, q0kw hy, decide_eq_true (show (i : Int) < (l.length : Int) by omega)]
      refine ⟨by omega, by rw [q0l0]; omega, by rw [q0l0]; omega, ?_⟩
      refine q006.res (q0vj y (hr y (List.mem_of_getElem? hy))) [] rfl Try.call204 ?_ (.inl rfl) ?_
      · simp -implicitDefEqProofs only [agR, Nat.reduceLeDiff, Nat.reduceSub, vaR, go_sem, ints, rows, rat, rats, q0p1, rtR, intsO, q0qa]
      simp -implicitDefEqProofs only [clR, Nat.reduceLeDiff, go_sem, evR, rat, intsO, hlen]
      refine ⟨by omega, by omega, by omega, hn _ (i + 1) (Weak.of _ _ [some 7] (by simp) (by simp) ?_ ?_) (by omega) (by omega)⟩
      · simp -implicitDefEqProofs only [ints, rows, Nat.reduceBEq, wkR, Nat.reduceEqDiff, ↓reduceIte, wrR, nodes, q0lb h9 (by omega)]
      · refine ⟨⟨_, rfl, ?_⟩, rfl, trivial⟩
        have := q0ln hy
        simp only [q0lv, intsO, List.append_assoc, List.cons_append, List.nil_append] at this
        (try simp only [List.append_assoc, List.cons_append, List.nil_append])
        rw [this]; exact .refl _
    · simp -implicitDefEqProofs only [go_sem, evR, ints, rows, rat, rats, nodes, decide_eq_false (show ¬ (i : Int) < (l.length : Int) by omega)]
      refine he _ _ ?_
      simp -implicitDefEqProofs only [go_sem, evR, ints, rows, rat, rats]
      rw [show i = l.length by omega, q0ll]; rfl
theorem q0hv (l : List Nd) (hm : l.length <= 1000000000000) (hr : ∀ x ∈ l, x.ch.length <= 1000000000000) : Fun Try.prog 98 [] [.t (q0vz l)] fun o r => o = [] /\ r = .agg [q0m0 l] := by
  refine q0ba (by simp) ?_
  simp -implicitDefEqProofs only [go_sem, evR, ints, rows, rat, rats, q04c, q0vz, nodes]
  have hp := q0ht l hm hr
  simp only [nodes] at hp
  refine q006.res hp [] rfl Try.call160 ?_ (.inl rfl) ?_
  · simp -implicitDefEqProofs only [agR, Nat.reduceLeDiff, Nat.reduceSub, vaR, go_sem, ints, rows, rat, rats, q0p1, rtR, intsO, q0qa]
  simp -implicitDefEqProofs only [clR, Nat.reduceLeDiff, go_sem, evR, rat, q0m0, opR, Nat.reduceBEq]
def q0q5 (m : List (List Int)) : Prop := m.length <= 1000000000000 /\ ∀ r ∈ m, r.length <= 1000000000000
def q0ce (g : Gm) : Prop := g.nd.length <= 1000000000000 /\ (∀ x ∈ g.nd, x.ch.length <= 1000000000000) /\ q0q5 g.w /\ q0q5 g.v
theorem q0q6 {m : List (List Int)} (h : q0q5 m) : ((m.length : Int) <= 1000000000000) /\ ∀ r ∈ m, (r.length : Int) <= 1000000000000 := ⟨by have := h.1; omega, fun r hr => by have := h.2 r hr; omega⟩
theorem q0hq (g : Gm) (hg : q0ce g) : Fun Try.prog 22 [] [.t (q0ck g)] fun o r => o = [] /\ r = q0cg g := by
  refine q0b7 (by simp) ?_
  simp -implicitDefEqProofs only [go_sem, evR, ints, rows, rat, rats, q049, q0ck, nodes]
  have hp := q0hv g.nd hg.1 hg.2.1
  simp only [q0vz, nodes] at hp
  refine q006.res hp [] rfl Try.call98 ?_ (.inl rfl) ?_
  · simp -implicitDefEqProofs only [agR, Nat.reduceLeDiff, Nat.reduceSub, vaR, go_sem, ints, rows, rat, rats, q0p1, rtR, intsO, q0qa]
  simp -implicitDefEqProofs only [clR, Nat.reduceLeDiff, go_sem, evR, rat, q0m0, opR, Nat.reduceBEq]
  refine q006.res (q0hr g.w (q0q6 hg.2.2.1).1 (q0q6 hg.2.2.1).2) [] rfl Try.call99 ?_ (.inl rfl) ?_
  · simp -implicitDefEqProofs only [agR, Nat.reduceLeDiff, Nat.reduceSub, vaR, go_sem, ints, rows, rat, rats, q0p1, rtR, intsO, q0qa]
  simp -implicitDefEqProofs only [clR, Nat.reduceLeDiff, go_sem, evR, rat, q0qa, opR, Nat.reduceBEq]
  refine q006.res (q0hr g.v (q0q6 hg.2.2.2).1 (q0q6 hg.2.2.2).2) [] rfl Try.call99 ?_ (.inl rfl) ?_
  · simp -implicitDefEqProofs only [agR, Nat.reduceLeDiff, Nat.reduceSub, vaR, go_sem, ints, rows, rat, rats, q0p1, rtR, intsO, q0qa]
  simp -implicitDefEqProofs only [clR, Nat.reduceLeDiff, go_sem, evR, rat, q0qa, opR, Nat.reduceBEq]
  rfl
theorem q0hi (x y : Nd) (hx : x.ch.length <= 1000000000000) (hy : y.ch.length <= 1000000000000) : Pure Try.prog 207 [q0ly x, q0ly y] (.b (decide (x = y))) := by
  refine q0az (by simp) ?_
  obtain ⟨p, a, b, f, ch⟩ := x
  obtain ⟨p', a', b', f', ch'⟩ := y
  simp -implicitDefEqProofs only [go_sem, evR, ints, rows, rat, rats, q041, q0ly, q0lu]
  have no : ∀ {P : Prop}, ¬ P -> (Nd.mk p a b f ch = Nd.mk p' a' b' f' ch' -> P) -> decide (Nd.mk p a b f ch = Nd.mk p' a' b' f' ch') = false := fun h1 h2 => decide_eq_false fun h => h1 (h2 h)
  refine ⟨fun h1 => ?_, fun h1 => ?_⟩
  · rw [no (P := p = p') (by simpa using h1) (fun h => by injection h)]
  refine ⟨fun h2 => ?_, fun h2 => ?_⟩
  · rw [no (P := a = a') (by simpa using h2) (fun h => by injection h)]
  refine ⟨fun h3 => ?_, fun h3 => ?_⟩
  · rw [no (P := b = b') (by simpa using h3) (fun h => by injection h)]
  refine ⟨fun h4 => ?_, fun h4 => ?_⟩
  · rw [no (P := f = f') (by simpa using h4) (fun h => by injection h)]
  refine q006.pure (q0hg ch ch' hx hy) [] rfl Try.call48 ?_ (by first | trivial | simp [T.noSh, T.noShL, rat]) rfl ?_
  · simp -implicitDefEqProofs only [agR, Nat.reduceLeDiff, Nat.reduceSub, vaR, go_sem, ints, rows, rat, rats, q0p1, rtR, intsO, q0qa]
  simp -implicitDefEqProofs only [go_sem, evR, ints, rows, rat, rats]
  refine ⟨fun h5 => ?_, fun h5 => ?_⟩
  · rw [no (P := ch = ch') (by simpa using h5) (fun h => by injection h)]
  · rw [decide_eq_true (by simp at h1 h2 h3 h4 h5; simp_all)]
theorem q08h (x y : Nd) (hx : x.ch.length <= 1000000000000) (hy : y.ch.length <= 1000000000000) : Pure Try.prog 207 [.agg [.i x.p, .i x.a, .i x.b, .i x.f, .sh 1 (x.ch.map T.i)], .agg [.i y.p, .i y.a, .i y.b, .i y.f, .sh 1 (y.ch.map T.i)]] (.b (decide (x = y))) := q0hi x y hx hy
theorem q0hh (a b : List Nd) (ha : a.length <= 1000000000000) (hb : b.length <= 1000000000000) (hra : ∀ r ∈ a, r.ch.length <= 1000000000000) (hrb : ∀ r ∈ b, r.ch.length <= 1000000000000) :
    Pure Try.prog 165 [nodes a, nodes b] (.b (decide (a = b))) := by
  refine q0b0 (by simp) ?_
  simp -implicitDefEqProofs only [go_sem, evR, ints, rows, rat, rats, q042, nodes]
  refine ⟨fun h => ?_, fun h => ?_⟩
  · have : a ≠ b := by rintro rfl; simp at h
    simp [this]
  · have hab : a.length = b.length := by simp at h; omega
    refine SemC.loopR (σ := Nat) (fun i => St.of [(0, .t (nodes a)), (1, .t (nodes b)), (5, .t (.i i))] []) (fun i => i <= a.length /\ ∀ j, j < i -> a[j]? = b[j]?) (fun i => a.length - i) 0 (Weak.of _ [] [] (by simp) (by simp) ?_ trivial) ⟨by simp, fun j hj => by omega⟩ fun i hI R hn hr he => ?_
    · simp -implicitDefEqProofs only [ints, rows, wkR, Nat.reduceEqDiff, ↓reduceIte, nodes]
    · rcases Nat.lt_or_ge i a.length with h9 | h9
      · obtain ⟨x, hx⟩ : ∃ x, a[i]? = some x := ⟨_, List.getElem?_eq_getElem h9⟩
        obtain ⟨y, hy⟩ : ∃ y, b[i]? = some y := ⟨_, List.getElem?_eq_getElem (by omega)⟩
        simp -implicitDefEqProofs only [go_sem, evR, ints, rows, rat, rats, nodes, q0kw hx, q0kw hy, decide_eq_true (show (i : Int) < (a.length : Int) by omega)]
        refine ⟨by omega, by rw [q0l0]; omega, by rw [q0l0]; omega, by omega, by rw [q0l0]; omega, by rw [q0l0]; omega, ?_⟩
        refine q004.pure (q08h x y (hra x (List.mem_of_getElem? hx)) (hrb y (List.mem_of_getElem? hy))) [] rfl Try.call207 (fun e R' hR => ?_) (by first | trivial | simp [T.noSh, T.noShL, rat]) (fun _ => rfl) ?_
        · simp -implicitDefEqProofs only [agR, Nat.reduceLeDiff, Nat.reduceSub, vaR, go_sem, ints, rows, rat, rats, q0p1, rtR, intsO, q0qa]
        simp -implicitDefEqProofs only [go_sem, evR, ints, rows, rat, rats]
        refine ⟨fun h1 => hr _ ?_, fun h1 => hn _ (i + 1) (Weak.of _ [] [] (by simp) (by simp) ?_ trivial) ⟨by omega, fun j hj => ?_⟩ (by omega)⟩
        · simp -implicitDefEqProofs only [go_sem, evR, ints, rows, rat, rats]
          have : a ≠ b := by rintro rfl; rw [hx] at hy; cases hy; simp at h1
          simp [this]
        · simp -implicitDefEqProofs only [ints, rows, wkR, Nat.reduceEqDiff, ↓reduceIte, nodes, q0lb h9 ha]
        · rcases Nat.lt_or_ge j i with h | h
          · exact hI.2 j h
          · have : j = i := by omega
            subst this
            rw [hx, hy]; simpa using h1
      · simp -implicitDefEqProofs only [go_sem, evR, ints, rows, rat, rats, nodes, decide_eq_false (show ¬ (i : Int) < (a.length : Int) by omega)]
        refine he _ _ ?_
        simp -implicitDefEqProofs only [go_sem, evR, ints, rows, rat, rats]
        have : a = b := by
          refine List.ext_getElem? fun j => ?_
          rcases Nat.lt_or_ge j i with h | h
          · exact hI.2 j h
          · rw [List.getElem?_eq_none (by omega), List.getElem?_eq_none (by omega)]
        simp [this]
theorem q0hj (a b : List Nd) (ha : a.length <= 1000000000000) (hb : b.length <= 1000000000000) (hra : ∀ r ∈ a, r.ch.length <= 1000000000000) (hrb : ∀ r ∈ b, r.ch.length <= 1000000000000) :
    Pure Try.prog 101 [q0vz a, q0vz b] (.b (decide (a = b))) := by
  refine q0ay (by simp) ?_
  simp -implicitDefEqProofs only [go_sem, evR, ints, rows, rat, rats, q040, q0vz, nodes]
  have hp := q0hh a b ha hb hra hrb
  simp only [nodes] at hp
  refine q006.pure hp [] rfl Try.call165 ?_ (by first | trivial | simp [T.noSh, T.noShL, rat]) rfl ?_
  · simp -implicitDefEqProofs only [agR, Nat.reduceLeDiff, Nat.reduceSub, vaR, go_sem, ints, rows, rat, rats, q0p1, rtR, intsO, q0qa]
  simp -implicitDefEqProofs only [go_sem, evR, ints, rows, rat, rats]
  exact ⟨fun h => by rw [show decide (a = b) = false by simpa using h], fun h => by rw [show decide (a = b) = true by simpa using h]⟩
theorem q0he (g h : Gm) (hg : q0ce g) (hh : q0ce h) : Pure Try.prog 25 [q0ck g, q0ck h] (.b (decide (g = h))) := by
  refine q0av (by simp) ?_
  obtain ⟨nd, w, v⟩ := g
  obtain ⟨nd', w', v'⟩ := h
  simp -implicitDefEqProofs only [go_sem, evR, ints, rows, rat, rats, q03x, q0ck, nodes]
  have no : ∀ {P : Prop}, ¬ P -> (Gm.mk nd w v = Gm.mk nd' w' v' -> P) -> decide (Gm.mk nd w v = Gm.mk nd' w' v') = false := fun h1 h2 => decide_eq_false fun h => h1 (h2 h)
  have hp := q0hj nd nd' hg.1 hh.1 hg.2.1 hh.2.1
  simp only [q0vz, nodes] at hp
  refine q006.pure hp [] rfl Try.call101 ?_ (by first | trivial | simp [T.noSh, T.noShL, rat]) rfl ?_
  · simp -implicitDefEqProofs only [agR, Nat.reduceLeDiff, Nat.reduceSub, vaR, go_sem, ints, rows, rat, rats, q0p1, rtR, intsO, q0qa]
  simp -implicitDefEqProofs only [go_sem, evR, ints, rows, rat, rats]
  refine ⟨fun h1 => ?_, fun h1 => ?_⟩
  · rw [no (P := nd = nd') (by simpa using h1) (fun h => by injection h)]
  refine q006.pure (q0hf w w' hg.2.2.1.1 hh.2.2.1.1 hg.2.2.1.2 hh.2.2.1.2) [] rfl Try.call24 ?_ (by first | trivial | simp [T.noSh, T.noShL, rat]) rfl ?_
  · simp -implicitDefEqProofs only [agR, Nat.reduceLeDiff, Nat.reduceSub, vaR, go_sem, ints, rows, rat, rats, q0p1, rtR, intsO, q0qa]
  simp -implicitDefEqProofs only [go_sem, evR, ints, rows, rat, rats]
  refine ⟨fun h2 => ?_, fun h2 => ?_⟩
  · rw [no (P := w = w') (by simpa using h2) (fun h => by injection h)]
  refine q006.pure (q0hf v v' hg.2.2.2.1 hh.2.2.2.1 hg.2.2.2.2 hh.2.2.2.2) [] rfl Try.call24 ?_ (by first | trivial | simp [T.noSh, T.noShL, rat]) rfl ?_
  · simp -implicitDefEqProofs only [agR, Nat.reduceLeDiff, Nat.reduceSub, vaR, go_sem, ints, rows, rat, rats, q0p1, rtR, intsO, q0qa]
  simp -implicitDefEqProofs only [go_sem, evR, ints, rows, rat, rats]
  refine ⟨fun h3 => ?_, fun h3 => ?_⟩
  · rw [no (P := v = v') (by simpa using h3) (fun h => by injection h)]
  · rw [decide_eq_true (by simp at h1 h2 h3; simp_all)]
end

def q03e : CC :=
 (.seq (.reg [.o (.box 2 (sl 0)),
 .o (.box 3 (sl 1)),
 .o (.move 4 (ci 0)),
 .o (.alloc 5 [.v (.int .i64 0), .v (.slice none 0 0)])])
 ((.seq (.reg [.o (.loadN 16 3 (sl 2)),
 .o (.fld 17 0 (sl 3)),
 .o (.load1 18 (sl 17)),
 .o (.bin 19 .sub (ci 1) (sl 18)),
 .o (.fld 20 1 (sl 3)),
 .o (.load1 21 (sl 20)),
 .o (.build 22 [.v (.slice none 0 0), .v (.slice none 0 0), .v (.slice none 0 0), .v (.int .i64 0), .v (.int .i64 0), .v (.slice none 0 0), .v (.slice none 0 0), .v (.slice none 0 0), .v (.int .i64 0), .v (.slice none 0 0)] [(0, 3), (3, 1), (4, 1), (5, 1), (6, 1), (7, 1), (8, 2)] [(0, (sl 16)), (1, (sl 19)), (5, (sl 21))]),
 .o (.alloc 6 [.v (.slice none 0 0), .v (.slice none 0 0), .v (.slice none 0 0), .v (.int .i64 0), .v (.int .i64 0), .v (.slice none 0 0), .v (.slice none 0 0), .v (.slice none 0 0), .v (.int .i64 0), .v (.slice none 0 0)]),
 .o (.store 10 (sl 6) (sl 22))])
 ((.seq (.draw [27, 32] [(kR, .o (.fld 23 0 (sl 2))),
 (kR, .o (.fld 24 0 (sl 23))),
 (kR, .o (.load1 25 (sl 24))),
 (kR, .o (.lenS 26 (sl 25))),
 (kN, .o (.make 27 [.v (.int .i64 0)] 8 (sl 26) (sl 26))),
 (.r false [6, 27], .o (.fld 28 0 (sl 2))),
 (.r false [6, 27], .o (.fld 29 0 (sl 28))),
 (.r false [6, 27], .o (.load1 30 (sl 29))),
 (.r false [6, 27], .o (.lenS 31 (sl 30))),
 (kN, .o (.make 32 [.v (.int .i64 0)] 8 (sl 31) (sl 31))),
 (.r false [32], .o (.fld 33 5 (sl 6))),
 (.h (some [6, 27]) [32], .o (.store 1 (sl 33) (sl 27))),
 (kR, .o (.fld 34 6 (sl 6))),
 (kH, .o (.store 1 (sl 34) (sl 32)))])
 ((.seq (.reg [.o (.fld 35 1 (sl 2)),
 .o (.load1 36 (sl 35)),
 .o (.lenS 37 (sl 36)),
 .o (.move 7 (sl 37))])
 ((.seq (.seq (.reg [.o (.fld 38 0 (sl 2)),
 .o (.loadN 39 1 (sl 38)),
 .o (.fld 40 3 (sl 6)),
 .o (.load1 41 (sl 40)),
 .o (.call (some 42) (cf 181) [(sl 39), (sl 41)]),
 .o (.lenS 43 (sl 42)),
 .o (.move 44 (ci 0))])
 ((.block 0 (.loop (.seq (.reg [.o (.bin 45 .lss (sl 44) (sl 43))])
 ((.seq (.cond (sl 45) .skip
 (.exit 0))
 ((.seq (.block 1 (.seq (.reg [.o (.move 46 (sl 44)),
 .o (.idx 47 1 (sl 42) (sl 44)),
 .o (.load1 48 (sl 47)),
 .o (.move 8 (sl 46)),
 .o (.move 9 (sl 48))])
 ((.reg [.o (.fld 49 5 (sl 6)),
 .o (.load1 50 (sl 49)),
 .o (.move 51 (sl 9)),
 .o (.move 52 (sl 8)),
 .o (.move 53 (sl 7)),
 .o (.bin 54 .mul (sl 52) (sl 53)),
 .o (.idx 55 1 (sl 50) (sl 51)),
 .o (.store 1 (sl 55) (sl 54))]))))
 ((.reg [.o (.bin 56 .add (sl 44) (ci 1)),
 .o (.move 44 (sl 56))])))))))))))
 ((.seq (.seq (.reg [.o (.fld 57 0 (sl 2)),
 .o (.loadN 58 1 (sl 57)),
 .o (.fld 59 0 (sl 3)),
 .o (.load1 60 (sl 59)),
 .o (.call (some 61) (cf 181) [(sl 58), (sl 60)]),
 .o (.lenS 62 (sl 61)),
 .o (.move 63 (ci 0))])
 ((.block 2 (.loop (.seq (.reg [.o (.bin 64 .lss (sl 63) (sl 62))])
 ((.seq (.cond (sl 64) .skip
 (.exit 2))
 ((.seq (.block 3 (.seq (.reg [.o (.move 65 (sl 63)),
 .o (.idx 66 1 (sl 61) (sl 63)),
 .o (.load1 67 (sl 66)),
 .o (.move 10 (sl 65)),
 .o (.move 11 (sl 67))])
 ((.reg [.o (.fld 68 6 (sl 6)),
 .o (.load1 69 (sl 68)),
 .o (.move 70 (sl 11)),
 .o (.move 71 (sl 10)),
 .o (.move 72 (sl 7)),
 .o (.bin 73 .mul (sl 71) (sl 72)),
 .o (.idx 74 1 (sl 69) (sl 70)),
 .o (.store 1 (sl 74) (sl 73))]))))
 ((.reg [.o (.bin 75 .add (sl 63) (ci 1)),
 .o (.move 63 (sl 75))])))))))))))
 ((.seq (.draw [83, 86] [(kR, .o (.fld 76 3 (sl 6))),
 (kR, .o (.load1 77 (sl 76))),
 (kR, .o (.move 78 (sl 7))),
 (kR, .o (.fld 79 0 (sl 2))),
 (kR, .o (.loadN 80 1 (sl 79))),
 (kR, .o (.fld 81 3 (sl 6))),
 (kR, .o (.load1 82 (sl 81))),
 (.c false [], .o (.call (some 83) (cf 181) [(sl 80), (sl 82)])),
 (kR, .o (.lenS 84 (sl 83))),
 (kR, .o (.bin 85 .mul (sl 78) (sl 84))),
 (kN, .o (.make 86 [.v (.slice none 0 0)] 24 (sl 85) (sl 85))),
 (kR, .o (.build 87 [.v (.int .i64 0), .v (.slice none 0 0)] [(0, 1), (1, 1)] [(0, (sl 77)), (1, (sl 86))])),
 (kR, .o (.fld 88 8 (sl 6))),
 (kH, .o (.store 2 (sl 88) (sl 87)))])
 ((.seq (.reg [.o (.move 12 (ci 0))])
 ((.seq (.seq (.reg [.o (.move 89 (sl 7)),
 .o (.move 90 (ci 0))])
 ((.block 4 (.loop (.seq (.reg [.o (.bin 91 .lss (sl 90) (sl 89))])
 ((.seq (.cond (sl 91) .skip
 (.exit 4))
 ((.seq (.block 5 (.seq (.reg [.o (.move 92 (sl 90)),
 .o (.move 13 (sl 92))])
 ((.seq (.reg [.o (.move 93 (sl 13)),
 .o (.fld 94 4 (sl 6)),
 .o (.store 1 (sl 94) (sl 93))])
 ((.seq (.reg [.o (.move 95 (sl 7)),
 .o (.make 96 [.v (.int .i64 0)] 8 (sl 95) (sl 95)),
 .o (.move 14 (sl 96))])
 ((.seq (.seq (.reg [.o (.move 97 (sl 14)),
 .o (.lenS 98 (sl 97)),
 .o (.move 99 (ci 0))])
 ((.block 6 (.loop (.seq (.reg [.o (.bin 100 .lss (sl 99) (sl 98))])
 ((.seq (.cond (sl 100) .skip
 (.exit 6))
 ((.seq (.block 7 (.seq (.reg [.o (.move 101 (sl 99)),
 .o (.move 15 (sl 101))])
 ((.seq (.reg [.o (.fld 102 3 (sl 6)),
 .o (.load1 103 (sl 102)),
 .o (.bin 104 .eql (sl 103) (ci 0))])
 ((.cond (sl 104) (.reg [.o (.move 105 (sl 14)),
 .o (.move 106 (sl 15)),
 .o (.fld 107 1 (sl 2)),
 .o (.load1 108 (sl 107)),
 .o (.move 109 (sl 13)),
 .o (.idx 110 1 (sl 108) (sl 109)),
 .o (.load1 111 (sl 110)),
 .o (.move 112 (sl 15)),
 .o (.idx 113 1 (sl 111) (sl 112)),
 .o (.load1 114 (sl 113)),
 .o (.idx 115 1 (sl 105) (sl 106)),
 .o (.store 1 (sl 115) (sl 114))])
 (.reg [.o (.move 116 (sl 14)),
 .o (.move 117 (sl 15)),
 .o (.fld 118 1 (sl 2)),
 .o (.load1 119 (sl 118)),
 .o (.move 120 (sl 15)),
 .o (.idx 121 1 (sl 119) (sl 120)),
 .o (.load1 122 (sl 121)),
 .o (.move 123 (sl 13)),
 .o (.idx 124 1 (sl 122) (sl 123)),
 .o (.load1 125 (sl 124)),
 .o (.idx 126 1 (sl 116) (sl 117)),
 .o (.store 1 (sl 126) (sl 125))])))))))
 ((.reg [.o (.bin 127 .add (sl 99) (ci 1)),
 .o (.move 99 (sl 127))])))))))))))
 ((.weak (.reg [.o (.move 128 (sl 12)),
 .o (.move 129 (sl 14)),
 .o (.fld 130 0 (sl 2)),
 .o (.loadN 131 1 (sl 130)),
 .o (.call (some 132) (cf 164) [(sl 131), (ci 0)]),
 .o (.call (some 133) (cf 182) [(sl 6), (ci 0), (sl 129), (sl 132)]),
 .o (.bin 134 .add (sl 128) (sl 133)),
 .o (.move 12 (sl 134))])))))))))))
 ((.reg [.o (.bin 135 .add (sl 90) (ci 1)),
 .o (.move 90 (sl 135))])))))))))))
 ((.seq (.weak (.draw [] [(kR, .o (.move 136 (sl 12))),
 (kR, .o (.fld 137 8 (sl 6))),
 (kR, .o (.loadN 138 2 (sl 137))),
 (kR, .o (.move 4 (sl 136))),
 (kH, .o (.store 2 (sl 5) (sl 138)))]))
 (.ret))))))))))))))))))))
theorem q0ac {rin : List T} {args : List A} {Q : List T -> T -> Prop} (ha : args.length <= 139) (h : cW Try.prog 139 q03e (retP Try.prog [.tmp 4, .cell 5 47] rin.length Q) (St.of (enum 0 args) (enum 1000000000 rin))) :
    Fun Try.prog 122 rin args Q :=
  Fun.of (H := ⟨[], [28, 30]⟩) Try.func122 rfl rfl rfl (by kernel_rfl) ha (by decide) h

def q056 : CC :=
 (.seq (.reg [.o (.box 2 (sl 0)),
 .o (.box 3 (sl 1)),
 .o (.move 4 (ci 0)),
 .o (.alloc 5 [.v (.int .i64 0), .v (.slice none 0 0)])])
 ((.seq (.reg [.o (.loadN 13 3 (sl 2)),
 .o (.fld 14 0 (sl 3)),
 .o (.load1 15 (sl 14)),
 .o (.bin 16 .sub (ci 1) (sl 15)),
 .o (.loadN 17 2 (sl 3)),
 .o (.build 18 [.v (.slice none 0 0), .v (.slice none 0 0), .v (.slice none 0 0), .v (.int .i64 0), .v (.int .i64 0), .v (.slice none 0 0), .v (.slice none 0 0)] [(0, 3), (3, 1), (4, 2), (6, 1)] [(0, (sl 13)), (1, (sl 16)), (2, (sl 17))]),
 .o (.box 19 (sl 18)),
 .o (.move 6 (sl 19))])
 ((.seq (.draw [26, 28] [(kR, .o (.move 20 (sl 6))),
 (kR, .o (.loadN 21 3 (sl 2))),
 (kR, .o (.move 22 (sl 6))),
 (kR, .o (.nilc 23 (sl 22))),
 (kR, .o (.fld 24 3 (sl 23))),
 (kR, .o (.load1 25 (sl 24))),
 (.c false [], .o (.call (some 26) (cf 186) [(sl 21), (sl 25)])),
 (kR, .o (.lenS 27 (sl 26))),
 (kN, .o (.make 28 [.v (.slice none 0 0)] 24 (sl 27) (sl 27))),
 (kR, .o (.nilc 29 (sl 20))),
 (kR, .o (.fld 30 6 (sl 29))),
 (kH, .o (.store 1 (sl 30) (sl 28)))])
 ((.seq (.reg [.o (.move 7 (ci 0))])
 ((.seq (.seq (.reg [.o (.move 8 (ci 0))])
 ((.block 0 (.loop (.seq (.seq (.reg [.o (.move 31 (sl 8)),
 .o (.fld 32 1 (sl 2)),
 .o (.load1 33 (sl 32)),
 .o (.lenS 34 (sl 33)),
 .o (.bin 35 .lss (sl 31) (sl 34))])
 ((.cond (sl 35) .skip
 (.exit 0))))
 ((.seq (.block 1 (.seq (.reg [.o (.bslice 38 1 0 []),
 .o (.move 9 (sl 38))])
 ((.seq (.seq (.reg [.o (.move 10 (ci 0))])
 ((.block 2 (.loop (.seq (.seq (.reg [.o (.move 39 (sl 10)),
 .o (.fld 40 1 (sl 2)),
 .o (.load1 41 (sl 40)),
 .o (.lenS 42 (sl 41)),
 .o (.bin 43 .lss (sl 39) (sl 42))])
 ((.cond (sl 43) .skip
 (.exit 2))))
 ((.seq (.block 3 (.seq (.reg [.o (.move 47 (sl 6)),
 .o (.move 48 (sl 8)),
 .o (.move 49 (sl 10)),
 .o (.call (some 50) (cf 188) [(sl 47), (sl 48), (sl 49)]),
 .o (.move 46 (sl 50)),
 .o (.extract 51 (sl 46) 0),
 .o (.extract 52 (sl 46) 1),
 .o (.move 11 (sl 51)),
 .o (.move 12 (sl 52))])
 ((.reg [.o (.move 53 (sl 9)),
 .o (.fld 54 1 (sl 2)),
 .o (.load1 55 (sl 54)),
 .o (.move 56 (sl 11)),
 .o (.idx 57 1 (sl 55) (sl 56)),
 .o (.load1 58 (sl 57)),
 .o (.move 59 (sl 12)),
 .o (.idx 60 1 (sl 58) (sl 59)),
 .o (.load1 61 (sl 60)),
 .o (.bslice 62 1 1 [(0, (sl 61))]),
 .o (.app 63 1 8 (sl 53) (sl 62)),
 .o (.move 9 (sl 63))]))))
 ((.reg [.o (.move 44 (sl 10)),
 .o (.bin 45 .add (sl 44) (ci 1)),
 .o (.move 10 (sl 45))])))))))))
 ((.weak (.reg [.o (.move 64 (sl 7)),
 .o (.move 65 (sl 6)),
 .o (.move 66 (sl 8)),
 .o (.move 67 (sl 9)),
 .o (.fld 68 0 (sl 2)),
 .o (.loadN 69 1 (sl 68)),
 .o (.call (some 70) (cf 158) [(sl 69), (ci 0)]),
 .o (.call (some 71) (cf 189) [(sl 65), (ci 0), (sl 66), (sl 67), (sl 70)]),
 .o (.bin 72 .add (sl 64) (sl 71)),
 .o (.move 7 (sl 72))])))))))
 ((.reg [.o (.move 36 (sl 8)),
 .o (.bin 37 .add (sl 36) (ci 1)),
 .o (.move 8 (sl 37))])))))))))
 ((.seq (.weak (.draw [] [(kR, .o (.move 73 (sl 7))),
 (kR, .o (.move 74 (sl 6))),
 (kR, .o (.nilc 75 (sl 74))),
 (kR, .o (.fld 76 3 (sl 75))),
 (kR, .o (.load1 77 (sl 76))),
 (kR, .o (.move 78 (sl 6))),
 (kR, .o (.nilc 79 (sl 78))),
 (kR, .o (.fld 80 6 (sl 79))),
 (kR, .o (.load1 81 (sl 80))),
 (kR, .o (.build 82 [.v (.int .i64 0), .v (.slice none 0 0)] [(0, 1), (1, 1)] [(0, (sl 77)), (1, (sl 81))])),
 (kR, .o (.move 4 (sl 73))),
 (kH, .o (.store 2 (sl 5) (sl 82)))]))
 (.ret))))))))))))
theorem q0c4 {rin : List T} {args : List A} {Q : List T -> T -> Prop} (ha : args.length <= 83) (h : cW Try.prog 83 q056 (retP Try.prog [.tmp 4, .cell 5 47] rin.length Q) (St.of (enum 0 args) (enum 1000000000 rin))) :
    Fun Try.prog 132 rin args Q :=
  Fun.of (H := ⟨[], [13, 14]⟩) Try.func132 rfl rfl rfl (by kernel_rfl) ha (by decide) h

def q039 : CC :=
 (.seq (.reg [.o (.move 8 (ci 0))])
 ((.seq (.reg [.o (.move 25 (sl 0)),
 .o (.nilc 26 (sl 25)),
 .o (.fld 27 0 (sl 26)),
 .o (.fld 28 0 (sl 27)),
 .o (.fld 29 0 (sl 28)),
 .o (.load1 30 (sl 29)),
 .o (.move 31 (sl 1)),
 .o (.idx 32 5 (sl 30) (sl 31)),
 .o (.loadN 33 5 (sl 32)),
 .o (.alloc 9 [.v (.int .i64 0), .v (.int .i64 0), .v (.int .i64 0), .v (.int .i64 0), .v (.slice none 0 0)]),
 .o (.store 5 (sl 9) (sl 33))])
 ((.seq (.seq (.reg [.o (.fld 34 0 (sl 9)),
 .o (.load1 35 (sl 34))])
 ((.block 0 (.seq (.reg [.o (.bin 37 .eql (sl 35) (ci 2)),
 .o (.move 36 (sl 37))])
 ((.cond (sl 36) (.seq (.reg [.o (.move 10 (ci 0))])
 ((.seq (.seq (.reg [.o (.move 38 (sl 2)),
 .o (.lenS 39 (sl 38)),
 .o (.move 40 (ci 0))])
 ((.block 1 (.loop (.seq (.reg [.o (.bin 41 .lss (sl 40) (sl 39))])
 ((.seq (.cond (sl 41) .skip
 (.exit 1))
 ((.seq (.block 2 (.seq (.reg [.o (.move 42 (sl 40)),
 .o (.idx 43 1 (sl 38) (sl 40)),
 .o (.load1 44 (sl 43)),
 .o (.move 11 (sl 42)),
 .o (.move 12 (sl 44))])
 ((.seq (.reg [.o (.move 45 (sl 0)),
 .o (.nilc 46 (sl 45)),
 .o (.fld 47 3 (sl 46)),
 .o (.load1 48 (sl 47)),
 .o (.bin 49 .eql (sl 48) (ci 0))])
 ((.cond (sl 49) (.draw [] [(kR, .o (.move 50 (sl 10))),
 (kR, .o (.move 51 (sl 12))),
 (kR, .o (.move 52 (sl 0))),
 (kR, .o (.nilc 53 (sl 52))),
 (kR, .o (.fld 54 0 (sl 53))),
 (kR, .o (.loadN 55 3 (sl 54))),
 (kR, .o (.move 56 (sl 1))),
 (kR, .o (.move 57 (sl 0))),
 (kR, .o (.nilc 58 (sl 57))),
 (kR, .o (.fld 59 4 (sl 58))),
 (kR, .o (.load1 60 (sl 59))),
 (kR, .o (.move 61 (sl 11))),
 (kR, .o (.call (some 62) (cf 213) [(sl 55), (sl 56), (sl 60), (sl 61)])),
 (kR, .o (.bin 63 .mul (sl 51) (sl 62))),
 (kR, .o (.bin 64 .add (sl 50) (sl 63))),
 (kR, .o (.move 10 (sl 64)))])
 (.draw [] [(kR, .o (.move 65 (sl 10))),
 (kR, .o (.move 66 (sl 12))),
 (kR, .o (.move 67 (sl 0))),
 (kR, .o (.nilc 68 (sl 67))),
 (kR, .o (.fld 69 0 (sl 68))),
 (kR, .o (.loadN 70 3 (sl 69))),
 (kR, .o (.move 71 (sl 1))),
 (kR, .o (.move 72 (sl 11))),
 (kR, .o (.move 73 (sl 0))),
 (kR, .o (.nilc 74 (sl 73))),
 (kR, .o (.fld 75 4 (sl 74))),
 (kR, .o (.load1 76 (sl 75))),
 (kR, .o (.call (some 77) (cf 213) [(sl 70), (sl 71), (sl 72), (sl 76)])),
 (kR, .o (.bin 78 .mul (sl 66) (sl 77))),
 (kR, .o (.bin 79 .sub (sl 65) (sl 78))),
 (kR, .o (.move 10 (sl 79)))])))))))
 ((.reg [.o (.bin 80 .add (sl 40) (ci 1)),
 .o (.move 40 (sl 80))])))))))))))
 ((.seq (.reg [.o (.move 81 (sl 10)),
 .o (.move 82 (sl 3)),
 .o (.call (some 83) (cf 163) [(ci 60), (sl 82)]),
 .o (.bin 84 .mul (sl 81) (sl 83)),
 .o (.move 8 (sl 84))])
 (.ret))))))
 (.seq (.reg [.o (.move 86 (sl 0)),
 .o (.nilc 87 (sl 86)),
 .o (.fld 88 3 (sl 87)),
 .o (.load1 89 (sl 88)),
 .o (.bin 90 .eql (sl 35) (sl 89)),
 .o (.move 85 (sl 90))])
 ((.cond (sl 85) (.seq (.reg [.o (.move 13 (ci 0)),
 .o (.move 14 (ci 0))])
 ((.seq (.seq (.reg [.o (.fld 91 4 (sl 9)),
 .o (.load1 92 (sl 91)),
 .o (.lenS 93 (sl 92)),
 .o (.move 94 (ci 0))])
 ((.block 3 (.loop (.seq (.reg [.o (.bin 95 .lss (sl 94) (sl 93))])
 ((.seq (.cond (sl 95) .skip
 (.exit 3))
 ((.seq (.block 4 (.seq (.reg [.o (.move 96 (sl 94)),
 .o (.idx 97 1 (sl 92) (sl 94)),
 .o (.load1 98 (sl 97)),
 .o (.move 15 (sl 96)),
 .o (.move 16 (sl 98))])
 ((.seq (.reg [.o (.move 99 (sl 0)),
 .o (.move 100 (sl 16)),
 .o (.move 101 (sl 2)),
 .o (.move 102 (sl 3)),
 .o (.bin 103 .sub (sl 102) (ci 1)),
 .o (.call (some 104) (cf 182) [(sl 99), (sl 100), (sl 101), (sl 103)]),
 .o (.move 17 (sl 104))])
 ((.seq (.reg [.o (.move 105 (sl 15)),
 .o (.bin 106 .eql (sl 105) (ci 0)),
 .o (.move 107 (sl 106)),
 .g 107 false (some 108) (.move 108 (sl 17)),
 .g 107 false (some 109) (.move 109 (sl 14)),
 .g 107 false (some 110) (.bin 110 .gtr (sl 108) (sl 109)),
 .o (.pick 111 (sl 107) (cb true) (sl 110))])
 ((.cond (sl 111) (.reg [.o (.move 112 (sl 15)),
 .o (.move 113 (sl 17)),
 .o (.move 13 (sl 112)),
 .o (.move 14 (sl 113))])
 .skip))))))))
 ((.reg [.o (.bin 114 .add (sl 94) (ci 1)),
 .o (.move 94 (sl 114))])))))))))))
 ((.seq (.reg [.o (.fld 115 4 (sl 9)),
 .o (.load1 116 (sl 115)),
 .o (.lenS 117 (sl 116)),
 .o (.make 118 [.v (.int .i64 0)] 8 (sl 117) (sl 117)),
 .o (.move 18 (sl 118))])
 ((.seq (.reg [.o (.move 119 (sl 18)),
 .o (.move 120 (sl 13)),
 .o (.idx 121 1 (sl 119) (sl 120)),
 .o (.store 1 (sl 121) (ci 60))])
 ((.seq (.weak (.draw [] [(kR, .o (.move 122 (sl 0))),
 (kR, .o (.nilc 123 (sl 122))),
 (kR, .o (.fld 124 8 (sl 123))),
 (kR, .o (.fld 125 1 (sl 124))),
 (kR, .o (.load1 126 (sl 125))),
 (kR, .o (.move 127 (sl 0))),
 (kR, .o (.nilc 128 (sl 127))),
 (kR, .o (.fld 129 5 (sl 128))),
 (kR, .o (.load1 130 (sl 129))),
 (kR, .o (.move 131 (sl 1))),
 (kR, .o (.idx 132 1 (sl 130) (sl 131))),
 (kR, .o (.load1 133 (sl 132))),
 (kR, .o (.move 134 (sl 0))),
 (kR, .o (.nilc 135 (sl 134))),
 (kR, .o (.fld 136 4 (sl 135))),
 (kR, .o (.load1 137 (sl 136))),
 (kR, .o (.bin 138 .add (sl 133) (sl 137))),
 (kR, .o (.move 139 (sl 18))),
 (kR, .o (.idx 140 1 (sl 126) (sl 138))),
 (kH, .o (.store 1 (sl 140) (sl 139)))]))
 ((.seq (.weak (.reg [.o (.move 141 (sl 14)),
 .o (.bin 142 .mul (sl 141) (ci 60)),
 .o (.move 8 (sl 142))]))
 (.ret))))))))))))
 .skip)))))))))
 ((.seq (.reg [.o (.move 19 (ci 0))])
 ((.seq (.seq (.reg [.o (.fld 143 4 (sl 9)),
 .o (.load1 144 (sl 143)),
 .o (.lenS 145 (sl 144)),
 .o (.move 146 (ci 0))])
 ((.block 5 (.loop (.seq (.reg [.o (.bin 147 .lss (sl 146) (sl 145))])
 ((.seq (.cond (sl 147) .skip
 (.exit 5))
 ((.seq (.block 6 (.seq (.reg [.o (.move 148 (sl 146)),
 .o (.idx 149 1 (sl 144) (sl 146)),
 .o (.load1 150 (sl 149)),
 .o (.move 20 (sl 148)),
 .o (.move 21 (sl 150))])
 ((.seq (.reg [.o (.move 151 (sl 2)),
 .o (.lenS 152 (sl 151)),
 .o (.make 153 [.v (.int .i64 0)] 8 (sl 152) (sl 152)),
 .o (.move 22 (sl 153))])
 ((.seq (.seq (.reg [.o (.move 154 (sl 2)),
 .o (.lenS 155 (sl 154)),
 .o (.move 156 (ci 0))])
 ((.block 7 (.loop (.seq (.reg [.o (.bin 157 .lss (sl 156) (sl 155))])
 ((.seq (.cond (sl 157) .skip
 (.exit 7))
 ((.seq (.block 8 (.seq (.reg [.o (.move 158 (sl 156)),
 .o (.idx 159 1 (sl 154) (sl 156)),
 .o (.load1 160 (sl 159)),
 .o (.move 23 (sl 158)),
 .o (.move 24 (sl 160))])
 ((.draw [] [(kR, .o (.move 161 (sl 22))),
 (kR, .o (.move 162 (sl 23))),
 (kR, .o (.move 163 (sl 24))),
 (kR, .o (.move 164 (sl 0))),
 (kR, .o (.nilc 165 (sl 164))),
 (kR, .o (.fld 166 7 (sl 165))),
 (kR, .o (.load1 167 (sl 166))),
 (kR, .o (.move 168 (sl 0))),
 (kR, .o (.nilc 169 (sl 168))),
 (kR, .o (.fld 170 6 (sl 169))),
 (kR, .o (.load1 171 (sl 170))),
 (kR, .o (.move 172 (sl 1))),
 (kR, .o (.idx 173 1 (sl 171) (sl 172))),
 (kR, .o (.load1 174 (sl 173))),
 (kR, .o (.move 175 (sl 23))),
 (kR, .o (.bin 176 .add (sl 174) (sl 175))),
 (kR, .o (.idx 177 1 (sl 167) (sl 176))),
 (kR, .o (.load1 178 (sl 177))),
 (kR, .o (.move 179 (sl 20))),
 (kR, .o (.idx 180 1 (sl 178) (sl 179))),
 (kR, .o (.load1 181 (sl 180))),
 (kR, .o (.bin 182 .mul (sl 163) (sl 181))),
 (kR, .o (.idx 183 1 (sl 161) (sl 162))),
 (kH, .o (.store 1 (sl 183) (sl 182)))]))))
 ((.reg [.o (.bin 184 .add (sl 156) (ci 1)),
 .o (.move 156 (sl 184))])))))))))))
 ((.weak (.reg [.o (.move 185 (sl 19)),
 .o (.move 186 (sl 0)),
 .o (.move 187 (sl 21)),
 .o (.move 188 (sl 22)),
 .o (.move 189 (sl 3)),
 .o (.bin 190 .sub (sl 189) (ci 1)),
 .o (.call (some 191) (cf 182) [(sl 186), (sl 187), (sl 188), (sl 190)]),
 .o (.bin 192 .add (sl 185) (sl 191)),
 .o (.move 19 (sl 192))])))))))))
 ((.reg [.o (.bin 193 .add (sl 146) (ci 1)),
 .o (.move 146 (sl 193))])))))))))))
 ((.seq (.reg [.o (.move 194 (sl 19)),
 .o (.move 8 (sl 194))])
 (.ret))))))))))))
theorem q0a7 {rin : List T} {args : List A} {Q : List T -> T -> Prop} (ha : args.length <= 195) (h : cW Try.prog 195 q039 (retP Try.prog [.tmp 8] rin.length Q) (St.of (enum 0 args) (enum 1000000000 rin))) :
    Fun Try.prog 182 rin args Q :=
  Fun.of (H := ⟨[], [24, 25, 36]⟩) Try.func182 rfl rfl rfl (by kernel_rfl) ha (by decide) h

def q057 : CC :=
 (.seq (.reg [.o (.move 10 (ci 0))])
 ((.seq (.reg [.o (.move 26 (sl 0)),
 .o (.nilc 27 (sl 26)),
 .o (.fld 28 0 (sl 27)),
 .o (.fld 29 0 (sl 28)),
 .o (.fld 30 0 (sl 29)),
 .o (.load1 31 (sl 30)),
 .o (.move 32 (sl 1)),
 .o (.idx 33 5 (sl 31) (sl 32)),
 .o (.loadN 34 5 (sl 33)),
 .o (.alloc 11 [.v (.int .i64 0), .v (.int .i64 0), .v (.int .i64 0), .v (.int .i64 0), .v (.slice none 0 0)]),
 .o (.store 5 (sl 11) (sl 34))])
 ((.seq (.seq (.reg [.o (.fld 35 0 (sl 11)),
 .o (.load1 36 (sl 35))])
 ((.block 0 (.seq (.reg [.o (.bin 38 .eql (sl 36) (ci 2)),
 .o (.move 37 (sl 38))])
 ((.cond (sl 37) (.seq (.reg [.o (.move 12 (ci 0))])
 ((.seq (.seq (.reg [.o (.move 13 (ci 0))])
 ((.block 1 (.loop (.seq (.seq (.reg [.o (.move 39 (sl 13)),
 .o (.move 40 (sl 3)),
 .o (.lenS 41 (sl 40)),
 .o (.bin 42 .lss (sl 39) (sl 41))])
 ((.cond (sl 42) .skip
 (.exit 1))))
 ((.seq (.block 2 (.seq (.reg [.o (.move 46 (sl 0)),
 .o (.move 47 (sl 2)),
 .o (.move 48 (sl 13)),
 .o (.call (some 49) (cf 188) [(sl 46), (sl 47), (sl 48)]),
 .o (.move 45 (sl 49)),
 .o (.extract 50 (sl 45) 0),
 .o (.extract 51 (sl 45) 1),
 .o (.move 14 (sl 50)),
 .o (.move 15 (sl 51))])
 ((.seq (.reg [.o (.move 52 (sl 0)),
 .o (.nilc 53 (sl 52)),
 .o (.fld 54 0 (sl 53)),
 .o (.loadN 55 3 (sl 54)),
 .o (.move 56 (sl 1)),
 .o (.move 57 (sl 14)),
 .o (.move 58 (sl 15)),
 .o (.call (some 59) (cf 215) [(sl 55), (sl 56), (sl 57), (sl 58)]),
 .o (.move 16 (sl 59))])
 ((.seq (.seq (.reg [.o (.move 60 (sl 0)),
 .o (.nilc 61 (sl 60)),
 .o (.fld 62 3 (sl 61)),
 .o (.load1 63 (sl 62)),
 .o (.bin 64 .eql (sl 63) (ci 1))])
 ((.cond (sl 64) (.reg [.o (.move 65 (sl 16)),
 .o (.un 66 .neg (sl 65)),
 .o (.move 16 (sl 66))])
 .skip)))
 ((.draw [] [(kR, .o (.move 67 (sl 12))),
 (kR, .o (.move 68 (sl 3))),
 (kR, .o (.move 69 (sl 13))),
 (kR, .o (.idx 70 1 (sl 68) (sl 69))),
 (kR, .o (.load1 71 (sl 70))),
 (kR, .o (.move 72 (sl 16))),
 (kR, .o (.bin 73 .mul (sl 71) (sl 72))),
 (kR, .o (.move 74 (sl 4))),
 (kR, .o (.call (some 75) (cf 157) [(sl 74)])),
 (kR, .o (.bin 76 .mul (sl 73) (sl 75))),
 (kR, .o (.bin 77 .add (sl 67) (sl 76))),
 (kR, .o (.move 12 (sl 77)))]))))))))
 ((.reg [.o (.move 43 (sl 13)),
 .o (.bin 44 .add (sl 43) (ci 1)),
 .o (.move 13 (sl 44))])))))))))
 ((.seq (.reg [.o (.move 78 (sl 12)),
 .o (.move 10 (sl 78))])
 (.ret))))))
 (.seq (.reg [.o (.move 80 (sl 0)),
 .o (.nilc 81 (sl 80)),
 .o (.fld 82 3 (sl 81)),
 .o (.load1 83 (sl 82)),
 .o (.bin 84 .eql (sl 36) (sl 83)),
 .o (.move 79 (sl 84))])
 ((.cond (sl 79) (.seq (.reg [.o (.move 17 (ci 0)),
 .o (.move 18 (ci 0))])
 ((.seq (.seq (.reg [.o (.move 19 (ci 0))])
 ((.block 3 (.loop (.seq (.seq (.reg [.o (.move 85 (sl 19)),
 .o (.fld 86 4 (sl 11)),
 .o (.load1 87 (sl 86)),
 .o (.lenS 88 (sl 87)),
 .o (.bin 89 .lss (sl 85) (sl 88))])
 ((.cond (sl 89) .skip
 (.exit 3))))
 ((.seq (.block 4 (.seq (.reg [.o (.move 92 (sl 0)),
 .o (.fld 93 4 (sl 11)),
 .o (.load1 94 (sl 93)),
 .o (.move 95 (sl 19)),
 .o (.idx 96 1 (sl 94) (sl 95)),
 .o (.load1 97 (sl 96)),
 .o (.move 98 (sl 2)),
 .o (.move 99 (sl 3)),
 .o (.move 100 (sl 4)),
 .o (.call (some 101) (cf 189) [(sl 92), (sl 97), (sl 98), (sl 99), (sl 100)]),
 .o (.move 20 (sl 101))])
 ((.seq (.reg [.o (.move 102 (sl 19)),
 .o (.bin 103 .eql (sl 102) (ci 0)),
 .o (.move 104 (sl 103)),
 .g 104 false (some 105) (.move 105 (sl 20)),
 .g 104 false (some 106) (.move 106 (sl 18)),
 .g 104 false (some 107) (.bin 107 .gtr (sl 105) (sl 106)),
 .o (.pick 108 (sl 104) (cb true) (sl 107))])
 ((.cond (sl 108) (.reg [.o (.move 109 (sl 19)),
 .o (.move 110 (sl 20)),
 .o (.move 17 (sl 109)),
 .o (.move 18 (sl 110))])
 .skip))))))
 ((.reg [.o (.move 90 (sl 19)),
 .o (.bin 91 .add (sl 90) (ci 1)),
 .o (.move 19 (sl 91))])))))))))
 ((.seq (.reg [.o (.fld 111 4 (sl 11)),
 .o (.load1 112 (sl 111)),
 .o (.lenS 113 (sl 112)),
 .o (.make 114 [.v (.int .i64 0)] 8 (sl 113) (sl 113)),
 .o (.move 21 (sl 114))])
 ((.seq (.reg [.o (.move 115 (sl 21)),
 .o (.move 116 (sl 17)),
 .o (.idx 117 1 (sl 115) (sl 116)),
 .o (.store 1 (sl 117) (ci 60))])
 ((.seq (.weak (.draw [] [(kR, .o (.move 118 (sl 0))),
 (kR, .o (.nilc 119 (sl 118))),
 (kR, .o (.fld 120 6 (sl 119))),
 (kR, .o (.load1 121 (sl 120))),
 (kR, .o (.move 122 (sl 0))),
 (kR, .o (.nilc 123 (sl 122))),
 (kR, .o (.fld 124 0 (sl 123))),
 (kR, .o (.loadN 125 3 (sl 124))),
 (kR, .o (.move 126 (sl 0))),
 (kR, .o (.nilc 127 (sl 126))),
 (kR, .o (.fld 128 3 (sl 127))),
 (kR, .o (.load1 129 (sl 128))),
 (kR, .o (.move 130 (sl 1))),
 (kR, .o (.move 131 (sl 2))),
 (kR, .o (.call (some 132) (cf 221) [(sl 125), (sl 129), (sl 130), (sl 131)])),
 (kR, .o (.move 133 (sl 21))),
 (kR, .o (.idx 134 1 (sl 121) (sl 132))),
 (kH, .o (.store 1 (sl 134) (sl 133)))]))
 ((.seq (.weak (.reg [.o (.move 135 (sl 18)),
 .o (.move 10 (sl 135))]))
 (.ret))))))))))))
 .skip)))))))))
 ((.seq (.reg [.o (.move 22 (ci 0))])
 ((.seq (.seq (.reg [.o (.move 23 (ci 0))])
 ((.block 5 (.loop (.seq (.seq (.reg [.o (.move 136 (sl 23)),
 .o (.fld 137 4 (sl 11)),
 .o (.load1 138 (sl 137)),
 .o (.lenS 139 (sl 138)),
 .o (.bin 140 .lss (sl 136) (sl 139))])
 ((.cond (sl 140) .skip
 (.exit 5))))
 ((.seq (.block 6 (.seq (.reg [.o (.bslice 143 1 0 []),
 .o (.move 24 (sl 143))])
 ((.seq (.seq (.reg [.o (.move 25 (ci 0))])
 ((.block 7 (.loop (.seq (.seq (.reg [.o (.move 144 (sl 25)),
 .o (.move 145 (sl 3)),
 .o (.lenS 146 (sl 145)),
 .o (.bin 147 .lss (sl 144) (sl 146))])
 ((.cond (sl 147) .skip
 (.exit 7))))
 ((.seq (.block 8 (.draw [178] [(kR, .o (.move 150 (sl 24))),
 (kR, .o (.move 151 (sl 3))),
 (kR, .o (.move 152 (sl 25))),
 (kR, .o (.idx 153 1 (sl 151) (sl 152))),
 (kR, .o (.load1 154 (sl 153))),
 (kR, .o (.move 155 (sl 0))),
 (kR, .o (.nilc 156 (sl 155))),
 (kR, .o (.fld 157 4 (sl 156))),
 (kR, .o (.fld 158 1 (sl 157))),
 (kR, .o (.load1 159 (sl 158))),
 (kR, .o (.move 160 (sl 0))),
 (kR, .o (.nilc 161 (sl 160))),
 (kR, .o (.fld 162 0 (sl 161))),
 (kR, .o (.loadN 163 3 (sl 162))),
 (kR, .o (.move 164 (sl 0))),
 (kR, .o (.nilc 165 (sl 164))),
 (kR, .o (.fld 166 3 (sl 165))),
 (kR, .o (.load1 167 (sl 166))),
 (kR, .o (.bin 168 .sub (ci 1) (sl 167))),
 (kR, .o (.move 169 (sl 1))),
 (kR, .o (.move 170 (sl 25))),
 (kR, .o (.call (some 171) (cf 221) [(sl 163), (sl 168), (sl 169), (sl 170)])),
 (kR, .o (.idx 172 1 (sl 159) (sl 171))),
 (kR, .o (.load1 173 (sl 172))),
 (kR, .o (.move 174 (sl 23))),
 (kR, .o (.idx 175 1 (sl 173) (sl 174))),
 (kR, .o (.load1 176 (sl 175))),
 (kR, .o (.bin 177 .mul (sl 154) (sl 176))),
 (kN, .o (.bslice 178 1 1 [(0, (sl 177))])),
 (kH, .o (.app 179 1 8 (sl 150) (sl 178))),
 (kR, .o (.move 24 (sl 179)))]))
 ((.reg [.o (.move 148 (sl 25)),
 .o (.bin 149 .add (sl 148) (ci 1)),
 .o (.move 25 (sl 149))])))))))))
 ((.weak (.reg [.o (.move 180 (sl 22)),
 .o (.move 181 (sl 0)),
 .o (.fld 182 4 (sl 11)),
 .o (.load1 183 (sl 182)),
 .o (.move 184 (sl 23)),
 .o (.idx 185 1 (sl 183) (sl 184)),
 .o (.load1 186 (sl 185)),
 .o (.move 187 (sl 2)),
 .o (.move 188 (sl 24)),
 .o (.move 189 (sl 4)),
 .o (.bin 190 .sub (sl 189) (ci 1)),
 .o (.call (some 191) (cf 189) [(sl 181), (sl 186), (sl 187), (sl 188), (sl 190)]),
 .o (.bin 192 .add (sl 180) (sl 191)),
 .o (.move 22 (sl 192))])))))))
 ((.reg [.o (.move 141 (sl 23)),
 .o (.bin 142 .add (sl 141) (ci 1)),
 .o (.move 23 (sl 142))])))))))))
 ((.seq (.reg [.o (.move 193 (sl 22)),
 .o (.move 10 (sl 193))])
 (.ret))))))))))))
theorem q0c5 {rin : List T} {args : List A} {Q : List T -> T -> Prop} (ha : args.length <= 194) (h : cW Try.prog 194 q057 (retP Try.prog [.tmp 10] rin.length Q) (St.of (enum 0 args) (enum 1000000000 rin))) :
    Fun Try.prog 189 rin args Q :=
  Fun.of (H := ⟨[], [25, 35]⟩) Try.func189 rfl rfl rfl (by kernel_rfl) ha (by decide) h

def srch (g : Gm) (ot : List (List Int)) (pl : Int) (B : List (List Int)) : T := .box [nodes g.nd, rows g.w, rows g.v, .i pl, .i (1 - pl), rows ot, q0qa B]
def fstC (pl a b : Int) : Int := if pl = 0 then a else b
def q05g (reach : List Int) (p : Nat) : Prop := sumI reach * pw p <= 41990400000
def capV : Int := 4199040000000
theorem q0u3 : ∀ {l : List Int}, (∀ x ∈ l, 0 <= x) -> ∀ x ∈ l, x <= sumI l
  | [], _, x, h => by simp at h
  | y :: l, h0, x, h => by
    have h1 := q0u4 (l := l) fun z hz => h0 z (by simp [hz])
    have h2 := h0 y (by simp)
    rw [sumI]
    rcases List.mem_cons.1 h with rfl | h
    · omega
    · have := q0u3 (l := l) (fun z hz => h0 z (by simp [hz])) x h; omega
def payF (g : Gm) (pl : Int) (i own c : Nat) : Int := if pl = 0 then pay g i own c else pay g i c own
theorem q0o1 (g : Gm) (pl : Int) (i own c : Nat) : payP g pl i own c = if pl = 0 then payF g pl i own c else -payF g pl i own c := by
  unfold payP payF; split <;> rfl
theorem q0p7 {reach : List Int} (h0 : ∀ x ∈ reach, 0 <= x) (c : Nat) : 0 <= reach.getD c 0 /\ reach.getD c 0 <= sumI reach := by
  rw [List.getD_eq_getElem?_getD]
  cases h : reach[c]? with
  | none => exact ⟨by simp, by simpa using q0u4 h0⟩
  | some y => exact ⟨h0 y (List.mem_of_getElem? h), q0u3 h0 y (List.mem_of_getElem? h)⟩
theorem q0ul {reach : List Int} {p : Nat} (h0 : ∀ x ∈ reach, 0 <= x) (hc : q05g reach p) {c : Nat} {y : Int} (h1 : -100 <= y) (h2 : y <= 100) : (-capV <= reach.getD c 0 * y * pw p /\ reach.getD c 0 * y * pw p <= capV) /\ (-4199040000000 <= reach.getD c 0 * y /\ reach.getD c 0 * y <= 4199040000000) := by
  obtain ⟨r1, r2⟩ := q0p7 h0 c
  have hp := q0ok p
  obtain ⟨m1, m2⟩ := q0kl r1 h1 h2
  have k1 := Int.mul_le_mul_of_nonneg_right m1 (Int.le_of_lt hp)
  have k2 := Int.mul_le_mul_of_nonneg_right m2 (Int.le_of_lt hp)
  have k3 := Int.mul_le_mul_of_nonneg_right r2 (Int.le_of_lt hp)
  have k4 : reach.getD c 0 <= reach.getD c 0 * pw p := by
    have := Int.mul_le_mul_of_nonneg_left (show (1 : Int) <= pw p by omega) r1
    omega
  rw [Int.neg_mul, Int.mul_assoc 100] at k1
  rw [Int.mul_assoc 100] at k2
  unfold q05g at hc
  unfold capV
  refine ⟨⟨by omega, by omega⟩, by omega, by omega⟩
def cntA (vs : List Int) (k : Nat) : Int := if k = 0 then 0 else vs.getD (q01b.go k vs) 0
theorem q0db {vs : List Int} {k : Nat} {n : Int} (h : vs[k]? = some n) : q01b.go (k + 1) vs = (if k = 0 ∨ n > cntA vs k then k else q01b.go k vs) /\ cntA vs (k + 1) = (if k = 0 ∨ n > cntA vs k then n else cntA vs k) := by
  have hd : vs.getD k 0 = n := by rw [List.getD_eq_getElem?_getD, h]; rfl
  unfold cntA
  rw [q01f, hd]
  by_cases h0 : k = 0
  · subst h0; simp [hd]; rw [List.getD_eq_getElem?_getD] at hd; exact hd
  · rw [if_neg h0, if_neg h0, if_neg (by omega : ¬ k + 1 = 0)]
    by_cases h1 : vs.getD (q01b.go k vs) 0 < n
    · rw [if_pos h1, if_pos (.inr h1), if_pos (.inr h1)]; exact ⟨rfl, hd⟩
    · rw [if_neg h1, if_neg (by rintro (h | h); exact h0 h; exact h1 h), if_neg (by rintro (h | h); exact h0 h; exact h1 h)]; exact ⟨rfl, rfl⟩
theorem q09r {α β : Type} (F : β -> α -> β) (l : List α) (b : β) {k : Nat} {c : α} (h : l[k]? = some c) : (l.take (k + 1)).foldl F b = F ((l.take k).foldl F b) c := by
  rw [q0uj h, List.foldl_append]; rfl
def tS (g : Gm) (pl : Int) (i own : Nat) (reach : List Int) (p k : Nat) : Int := sumI ((List.range k).map fun c => reach.getD c 0 * payP g pl i own c) * pw p
theorem q0uh (g : Gm) (pl : Int) (i own : Nat) (reach : List Int) (p k : Nat) : tS g pl i own reach p (k + 1) = tS g pl i own reach p k + reach.getD k 0 * payP g pl i own k * pw p := by
  unfold tS
  rw [List.range_succ, List.map_append, List.map_cons, List.map_nil, q0u7, Int.add_mul]
theorem q0ug {g : Gm} {pl : Int} {i own : Nat} {reach : List Int} {p : Nat} (hp : q0nz g) (h0 : ∀ x ∈ reach, 0 <= x) (hc : q05g reach p) : ∀ k, -(k * capV) <= tS g pl i own reach p k /\ tS g pl i own reach p k <= k * capV
  | 0 => by simp [tS, sumI]
  | k + 1 => by
    have ih := q0ug (pl := pl) (i := i) (own := own) hp h0 hc k
    obtain ⟨h1, h2⟩ := q0o2 hp pl i own k
    have h3 := (q0ul h0 hc (c := k) h1 h2).1
    rw [q0uh]
    have e : ((k + 1 : Nat) : Int) * capV = k * capV + capV := by rw [Int.natCast_add, Int.add_mul]; simp
    omega
theorem q05i {g : Gm} {ot : List (List Int)} {pl : Int} (hot : q0nw g ot (1 - pl)) {i : Nat} {reach : List Int} (hi : i < g.nd.length) (hr : reach.length = g.w.length) (hp : (g.nd.getD i nd0).p = 1 - pl) (h0 : ∀ x ∈ reach, 0 <= x) {p : Nat} (hc : q05g reach (p + 1)) {k : Nat} (hk : k < (g.nd.getD i nd0).ch.length) : q05g (q0lc g ot pl i reach k) p := by
  have hs := q0lh hot hi hr hp
  have hle : sumI (q0lc g ot pl i reach k) <= 60 * sumI reach := by
    rw [← hs]
    refine q0u3 (fun x hx => ?_) _ (List.mem_map.2 ⟨k, List.mem_range.2 hk, rfl⟩)
    obtain ⟨k', _, rfl⟩ := List.mem_map.1 hx
    exact q0u4 (q0lg hot hi hr hp h0 k')
  have h1 := Int.mul_le_mul_of_nonneg_right hle (Int.le_of_lt (q0ok p))
  unfold q05g at hc ⊢
  rw [q0ol, ← Int.mul_assoc, Int.mul_comm (sumI reach) 60] at hc
  omega
theorem q0u5 {G : Nat -> Int} {c : Int} : ∀ {n : Nat}, (∀ k, k < n -> -c <= G k /\ G k <= c) -> -(n * c) <= sumI ((List.range n).map G) /\ sumI ((List.range n).map G) <= n * c
  | 0, _ => by simp [sumI]
  | n + 1, h => by
    have ih := q0u5 (n := n) fun k hk => h k (by omega)
    have h1 := h n (by omega)
    rw [List.range_succ, List.map_append, List.map_cons, List.map_nil, q0u7]
    have e : ((n + 1 : Nat) : Int) * c = n * c + c := by rw [Int.natCast_add, Int.add_mul]; simp
    omega
theorem q021 {g : Gm} {ot : List (List Int)} {pl : Int} {own : Nat} (hnd : q0l2 g.nd) (hpl : pl = 0 ∨ pl = 1) (hot : q0nw g ot (1 - pl)) {f i : Nat} {reach : List Int} {p : Nat} (hi : i < g.nd.length) (hr : reach.length = g.w.length) (h0 : ∀ x ∈ reach, 0 <= x) (hd : dep g.nd f i <= p) (hc : q05g reach p) : -capV <= q01z g ot pl own f i reach p /\ q01z g ot pl own f i reach p <= capV := by
  have h := q020 (own := own) hnd hpl hot (q0o0 hnd) f i reach p hi hr h0 hd
  rw [Int.mul_assoc] at h
  unfold q05g at hc
  unfold capV
  omega
def nilO (r : Nat) (K : A -> Prop) : Root -> Prop
  | .live (.box _) _ => K (.own r)
  | _ => False
theorem q0lr {r : Nat} {S : St} {K : A -> Prop} : q0lp (.own r) S K = nilO r K (S.roots r) := by
  show (match S.roots r with | .live (.box _) _ => K (.own r) | _ => False) = _
  cases S.roots r with
  | live t lk => cases t <;> rfl
  | _ => rfl
theorem q0lt {r off : Nat} {S : St} {K : A -> Prop} : q0lp (.ptr r off) S K = K (.ptr r off) := rfl
theorem q0ls {l : List T} {off : Nat} {S : St} {K : A -> Prop} : q0lp (.t (.pin l off)) S K = K (.t (.pin l off)) := rfl
attribute [go_sem] q0lr q0lt q0ls nilO
section
attribute [-go_sem] q0i5 q0id fldC lenC idxC q0ip q0lp
theorem q0sp (g : Gm) (ot B : List (List Int)) (pl a b : Int) : Fun Try.prog 188 [srch g ot pl B] [.own 1000000000, .t (.i a), .t (.i b)] fun o r => o = [srch g ot pl B] /\ r = .tup [.i (fstC pl a b), .i (fstC pl b a)] := by
  refine q0c3 (by simp) ?_
  simp -implicitDefEqProofs only [go_sem, evR, ints, rows, rat, rats, q055, srch]
  refine ⟨fun h => ?_, fun h => ?_⟩
  · have h : pl = 0 := by simpa using h
    rw [fstC, fstC, if_pos h, if_pos h]
  · have h : ¬ pl = 0 := by simpa using h
    rw [fstC, fstC, if_neg h, if_neg h]
theorem q0hb (g : Gm) (ot B : List (List Int)) (pl a b : Int) : Fun Try.prog 188 [.box [.sh 5 (chunk q0lu g.nd), .sh 1 (g.w.map ints), .sh 1 (g.v.map ints), .i pl, .i (1 - pl), .sh 1 (ot.map ints), q0qa B]] [.own 1000000000, .t (.i a), .t (.i b)] fun o r => o = [.box [.sh 5 (chunk q0lu g.nd), .sh 1 (g.w.map ints), .sh 1 (g.v.map ints), .i pl, .i (1 - pl), .sh 1 (ot.map ints), q0qa B]] /\ r = .tup [.i (fstC pl a b), .i (fstC pl b a)] := q0sp g ot B pl a b
theorem q0t1 {g : Gm} (hg : q0fl g = true) (pl : Int) {i own c : Nat} (hi : i < g.nd.length) (ha : own < g.w.length) (hb : c < g.w.length) : Pure Try.prog 215 [.agg [.sh 5 (chunk q0lu g.nd), .sh 1 (g.w.map ints), .sh 1 (g.v.map ints)], .i i, .i (fstC pl own c), .i (fstC pl c own)] (.i (payF g pl i own c)) := by
  unfold fstC payF
  by_cases h : pl = 0
  · rw [if_pos h, if_pos h, if_pos h]; exact q0se g hg i own c hi ha hb
  · rw [if_neg h, if_neg h, if_neg h]; exact q0se g hg i c own hi hb ha
theorem q0ha {g : Gm} (hg : q0fl g = true) {pl : Int} {i c : Nat} (hi : i < g.nd.length) (hp : (g.nd.getD i nd0).p = pl) (hc : c < g.w.length) : Pure Try.prog 221 [.agg [.sh 5 (chunk q0lu g.nd), .sh 1 (g.w.map ints), .sh 1 (g.v.map ints)], .i pl, .i i, .i c] (.i (setI g pl i c)) := q0sm g hg pl i c hi hp hc
theorem q0sr {g : Gm} {ot : List (List Int)} {pl : Int} {own : Nat} (hg : q0fl g = true) (hpl : pl = 0 ∨ pl = 1) (hot : q0nw g ot (1 - pl)) (hown : own < g.w.length) : ∀ (f i : Nat) (reach : List Int) (p : Nat) (B : List (List Int)), g.nd.length <= i + f -> i < g.nd.length -> reach.length = g.w.length -> (∀ x ∈ reach, 0 <= x) -> dep g.nd f i <= p -> p <= 5 -> q05g reach p -> q0q7 (sets g pl).length B →
    Fun Try.prog 189 [srch g ot pl B] [.own 1000000000, .t (.i i), .t (.i own), .t (ints reach), .t (.i p)] fun o r => o = [srch g ot pl (q01u g ot pl own f i reach p B)] /\ r = .i (q01z g ot pl own f i reach p) := by
  obtain ⟨p1, p2, p3, p4, p5⟩ := q0fn hg
  obtain ⟨t1, t2, t3, t4⟩ := q0g0 p1
  have hpay := q0o0 t2
  intro f
  induction f with
  | zero => intro i reach p B h1 h2; omega
  | succ f ih =>
    intro i reach p B hf hi hrl hr0 hdp hp5 hcap hBl
    obtain ⟨x, hx⟩ : ∃ x, g.nd[i]? = some x := ⟨_, List.getElem?_eq_getElem hi⟩
    have hxd : g.nd.getD i nd0 = x := by rw [List.getD_eq_getElem?_getD, hx]; rfl
    have hxl := (q0ks (t2 _ _ hx)).2.2.2.2.2
    have hB2 : x.p = 2 -> q01u g ot pl own (f + 1) i reach p B = B := fun h => by rw [q01u]; simp only [hxd]; rw [if_pos h]
    have hV2 : x.p = 2 -> q01z g ot pl own (f + 1) i reach p = tS g pl i own reach p reach.length := fun h => by rw [q01z]; simp only [hxd]; rw [if_pos h]; rfl
    have hB1 : x.p ≠ 2 -> x.p = pl -> q01u g ot pl own (f + 1) i reach p B = (x.ch.foldl (fun B c => q01u g ot pl own f c.toNat reach p B) B).set (setI g pl i own) ((List.replicate x.ch.length 0).set (q01b (x.ch.map fun c => q01z g ot pl own f c.toNat reach p)) 60) := fun h h' => by rw [q01u]; simp only [hxd]; rw [if_neg h, if_pos h']
    have hV1 : x.p ≠ 2 -> x.p = pl -> q01z g ot pl own (f + 1) i reach p = (x.ch.map fun c => q01z g ot pl own f c.toNat reach p).getD (q01b (x.ch.map fun c => q01z g ot pl own f c.toNat reach p)) 0 := fun h h' => by rw [q01z]; simp only [hxd]; rw [if_neg h, if_pos h']
    have hB0 : x.p ≠ 2 -> x.p ≠ pl -> q01u g ot pl own (f + 1) i reach p B = (List.range x.ch.length).foldl (fun B k => q01u g ot pl own f (x.ch.getD k 0).toNat (q0lc g ot pl i reach k) (p - 1) B) B := fun h h' => by rw [q01u]; simp only [hxd]; rw [if_neg h, if_neg h']
    have hV0 : x.p ≠ 2 -> x.p ≠ pl -> q01z g ot pl own (f + 1) i reach p = sumI ((List.range x.ch.length).map fun k => q01z g ot pl own f (x.ch.getD k 0).toNat (q0lc g ot pl i reach k) (p - 1)) := fun h h' => by rw [q01z]; simp only [hxd]; rw [if_neg h, if_neg h']
    generalize q01u g ot pl own (f + 1) i reach p B = B' at hB2 hB1 hB0 ⊢
    generalize q01z g ot pl own (f + 1) i reach p = V' at hV2 hV1 hV0 ⊢
    refine q0c5 (by simp) ?_
    simp -implicitDefEqProofs only [go_sem, evR, ints, rows, rat, rats, q057, srch, nodes, q0kw hx]
    refine ⟨by omega, by rw [q0l0]; omega, by rw [q0l0]; omega, fun h2 => ?_, fun h2 => ?_⟩
    · have h2 : x.p = 2 := by simpa using h2
      rw [hB2 h2, hV2 h2]
      refine SemC.loopR (σ := Nat) (fun k => St.of [(0, .own 1000000000), (1, .t (.i i)), (2, .t (.i own)), (3, .t (ints reach)), (4, .t (.i p)), (12, .t (.i (tS g pl i own reach p k))), (13, .t (.i k))] [(1000000000, srch g ot pl B)]) (fun k => k <= reach.length) (fun k => reach.length - k) 0 (Weak.of _ _ [some 1000000000] (by simp) (by simp) ?_ ?_) (by omega) fun k hk R hn hr he => ?_
      · simp -implicitDefEqProofs only [ints, rows, Nat.reduceBEq, wkR, Nat.reduceEqDiff, ↓reduceIte, wrR, show tS g pl i own reach p 0 = 0 by simp [tS, sumI]]
      · exact ⟨⟨_, rfl, .refl _⟩, rfl, trivial⟩
      · rcases Nat.lt_or_ge k reach.length with h9 | h9
        · simp -implicitDefEqProofs only [go_sem, evR, ints, rows, rat, rats, srch, nodes, decide_eq_true (show (k : Int) < (reach.length : Int) by omega)]
          refine q006.ref (q0hb g ot B pl own k) [1000000000] [] rfl Try.call188 (by simp) ?_ (by simp) ?_ (.inl rfl) ?_
          · simp -implicitDefEqProofs only [srR, Nat.reduceEqDiff, ↓reduceIte, ints, rows, intsO, q0qa]
          · simp -implicitDefEqProofs only [agR, Nat.reduceLeDiff, Nat.reduceSub, vaR, go_sem, ints, rows, rat, rats, q0p1, rtR, intsO, q0qa]
          simp -implicitDefEqProofs only [clR, Nat.reduceLeDiff, go_sem, evR, rat]
          obtain ⟨y, hy⟩ : ∃ y, reach[k]? = some y := ⟨_, List.getElem?_eq_getElem h9⟩
          have hyd : reach.getD k 0 = y := by rw [List.getD_eq_getElem?_getD, hy]; rfl
          obtain ⟨q1, q2⟩ := q0o2 hpay pl i own k
          obtain ⟨⟨m1, m2⟩, m3, m4⟩ := q0ul hr0 hcap (c := k) q1 q2
          have m5 := q0ug (pl := pl) (i := i) (own := own) hpay hr0 hcap k
          have m6 := q0uh g pl i own reach p k
          have m7 : (k : Int) * capV <= 6 * capV := Int.mul_le_mul_of_nonneg_right (by omega) (by decide)
          have hcv : capV = 4199040000000 := rfl
          have hPF := q0o1 g pl i own k
          rw [hyd] at m1 m2 m3 m4 m6
          generalize hP : payP g pl i own k = P at q1 q2 m1 m2 m3 m4 m6 hPF
          refine q006.pure (q0t1 (c := k) hg pl hi hown (by omega)) [] rfl Try.call215 ?_ (by first | trivial | simp [T.noSh, T.noShL, rat]) rfl ?_
          · simp -implicitDefEqProofs only [agR, Nat.reduceLeDiff, Nat.reduceSub, vaR, go_sem, ints, rows, rat, rats, q0p1, rtR, intsO, q0qa]
          simp -implicitDefEqProofs only [go_sem, evR, ints, rows, rat, rats, hy]
          have hw0 : pl = 1 -> IntKind.i64.wrap (0 - payF g pl i own k) = P := fun h => by
            rw [if_neg (by omega)] at hPF
            rw [wrap64 (n := 0 - payF g pl i own k) (by omega) (by omega)]; omega
          have hw1 : pl ≠ 1 -> payF g pl i own k = P := fun h => by
            rw [if_pos (by omega)] at hPF; exact hPF.symm
          refine ⟨fun h5 => ⟨by omega, by omega, by omega, ?_⟩, fun h5 => ⟨by omega, by omega, by omega, ?_⟩⟩
          · rw [hw0 (by simpa using h5)]
            refine q004.pure (q0sl p (by omega)) [] rfl Try.call157 (fun e R' hR => ?_) (by first | trivial | simp [T.noSh, T.noShL, rat]) (fun _ => rfl) ?_
            · simp -implicitDefEqProofs only [agR, Nat.reduceLeDiff, Nat.reduceSub, vaR, go_sem, ints, rows, rat, rats, q0p1, rtR, intsO, q0qa]
            simp -implicitDefEqProofs only [go_sem, evR, ints, rows, rat, rats]
            refine hn _ (k + 1) (Weak.of _ _ [some 1000000000] (by simp) (by simp) ?_ ?_) (by omega) (by omega)
            · simp -implicitDefEqProofs only [ints, rows, Nat.reduceBEq, wkR, Nat.reduceEqDiff, ↓reduceIte, wrR, srch, nodes, q0lb h9 (by omega), wrap64 (n := y * P) (by omega) (by omega), wrap64 (n := y * P * pw p) (by omega) (by omega), ← m6, wrap64 (n := tS g pl i own reach p (k + 1)) (by omega) (by omega)]
            · exact ⟨⟨_, rfl, .refl _⟩, rfl, trivial⟩
          · rw [hw1 (by simpa using h5)]
            refine q004.pure (q0sl p (by omega)) [] rfl Try.call157 (fun e R' hR => ?_) (by first | trivial | simp [T.noSh, T.noShL, rat]) (fun _ => rfl) ?_
            · simp -implicitDefEqProofs only [agR, Nat.reduceLeDiff, Nat.reduceSub, vaR, go_sem, ints, rows, rat, rats, q0p1, rtR, intsO, q0qa]
            simp -implicitDefEqProofs only [go_sem, evR, ints, rows, rat, rats]
            refine hn _ (k + 1) (Weak.of _ _ [some 1000000000] (by simp) (by simp) ?_ ?_) (by omega) (by omega)
            · simp -implicitDefEqProofs only [ints, rows, Nat.reduceBEq, wkR, Nat.reduceEqDiff, ↓reduceIte, wrR, srch, nodes, q0lb h9 (by omega), wrap64 (n := y * P) (by omega) (by omega), wrap64 (n := y * P * pw p) (by omega) (by omega), ← m6, wrap64 (n := tS g pl i own reach p (k + 1)) (by omega) (by omega)]
            · exact ⟨⟨_, rfl, .refl _⟩, rfl, trivial⟩
        · simp -implicitDefEqProofs only [go_sem, evR, ints, rows, rat, rats, srch, nodes, decide_eq_false (show ¬ (k : Int) < (reach.length : Int) by omega)]
          refine he _ _ ?_
          simp -implicitDefEqProofs only [go_sem, evR, ints, rows, rat, rats]
          rw [show k = reach.length by omega]
    have h2 : x.p ≠ 2 := by simpa using h2
    have hp2 : (g.nd.getD i nd0).p ≠ 2 := by rw [hxd]; exact h2
    obtain ⟨d1, d2⟩ := q07w (f := f) hp2
    rw [hxd] at d2
    have hch := q0kp (t2 _ _ hx)
    refine ⟨fun h3 => ?_, fun h3 => ?_⟩
    · have h3 : x.p = pl := by simpa using h3
      generalize hF : (fun (B : List (List Int)) (c : Int) => q01u g ot pl own f c.toNat reach p B) = F at hB1
      generalize hvs : (x.ch.map fun c => q01z g ot pl own f c.toNat reach p) = vs at hB1 hV1
      have hvl : vs.length = x.ch.length := by rw [← hvs, List.length_map]
      rw [hB1 h2 h3, hV1 h2 h3]
      refine SemC.loopR (σ := Nat) (fun k => St.of [(0, .own 1000000000), (1, .t (.i i)), (2, .t (.i own)), (3, .t (ints reach)), (4, .t (.i p)), (11, .own 11), (17, .t (.i (q01b.go k vs))), (18, .t (.i (cntA vs k))), (19, .t (.i k))] [(11, .box [.i x.p, .i x.a, .i x.b, .i x.f, ints x.ch]), (1000000000, srch g ot pl ((x.ch.take k).foldl F B))]) (fun k => k <= x.ch.length) (fun k => x.ch.length - k) 0 (Weak.of _ _ [some 11, some 1000000000] (by simp) (by simp) ?_ ?_) (by omega) fun k hk R hn hr he => ?_
      · simp -implicitDefEqProofs only [ints, rows, Nat.reduceBEq, wkR, Nat.reduceEqDiff, ↓reduceIte, wrR, show cntA vs 0 = 0 from rfl, show q01b.go 0 vs = 0 from rfl]
      · exact ⟨⟨_, rfl, .refl _⟩, rfl, ⟨_, rfl, .refl _⟩, rfl, trivial⟩
      · rcases Nat.lt_or_ge k x.ch.length with h9 | h9
        · obtain ⟨c, hc⟩ : ∃ c, x.ch[k]? = some c := ⟨_, List.getElem?_eq_getElem h9⟩
          have hcm := List.mem_of_getElem? hc
          have hcb := hch c hcm
          have hcd := d2 c hcm
          have hrow : q0q7 (sets g pl).length ((x.ch.take k).foldl F B) := by
            refine q09n (q0q7 (sets g pl).length) _ _ hBl fun B' c' _ hB' => ?_
            rw [← hF]; exact q01v t2 f _ _ _ _ hB'
          have hcall := ih c.toNat reach p ((x.ch.take k).foldl F B) (by omega) (by omega) hrl hr0 (by omega) hp5 hcap hrow
          rw [show ((c.toNat : Nat) : Int) = c by omega, show q01u g ot pl own f c.toNat reach p ((x.ch.take k).foldl F B) = (x.ch.take (k + 1)).foldl F B by rw [q09r F x.ch B hc, ← hF]] at hcall
          have hvk : vs[k]? = some (q01z g ot pl own f c.toNat reach p) := by rw [← hvs, List.getElem?_map, hc]; rfl
          obtain ⟨g1, g2⟩ := q0db hvk
          generalize q01z g ot pl own f c.toNat reach p = n at hcall hvk g1 g2
          simp only [srch, nodes, rows, ints] at hcall
          simp -implicitDefEqProofs only [go_sem, evR, ints, rows, rat, rats, srch, nodes, hc, decide_eq_true (show (k : Int) < (x.ch.length : Int) by omega)]
          refine ⟨by omega, by omega, by omega, ?_⟩
          refine q006.ref hcall [1000000000] [] rfl Try.call189 (by simp) ?_ (by simp) ?_ (.inl rfl) ?_
          · simp -implicitDefEqProofs only [srR, Nat.reduceEqDiff, ↓reduceIte, ints, rows, intsO, q0qa]
          · simp -implicitDefEqProofs only [agR, Nat.reduceLeDiff, Nat.reduceSub, vaR, go_sem, ints, rows, rat, rats, q0p1, rtR, intsO, q0qa]
          simp -implicitDefEqProofs only [clR, Nat.reduceLeDiff, go_sem, evR, rat]
          refine ⟨fun h0 => ⟨fun h1 => ?_, fun h1 => ?_⟩, fun h0 => ?_⟩
          · rw [if_pos (.inr h1)] at g1 g2
            refine hn _ (k + 1) (Weak.of _ _ [some 11, some 1000000000] (by simp) (by simp) ?_ ?_) (by omega) (by omega)
            · simp -implicitDefEqProofs only [ints, rows, Nat.reduceBEq, wkR, Nat.reduceEqDiff, ↓reduceIte, wrR, q0lb h9 (by omega), g1, g2]
            · exact ⟨⟨_, rfl, .refl _⟩, rfl, ⟨_, rfl, .refl _⟩, rfl, trivial⟩
          · rw [if_neg (by rintro (h | h); (· rw [h] at h0; simp at h0); (· exact h1 h))] at g1 g2
            refine hn _ (k + 1) (Weak.of _ _ [some 11, some 1000000000] (by simp) (by simp) ?_ ?_) (by omega) (by omega)
            · simp -implicitDefEqProofs only [ints, rows, Nat.reduceBEq, wkR, Nat.reduceEqDiff, ↓reduceIte, wrR, q0lb h9 (by omega), g1, g2]
            · exact ⟨⟨_, rfl, .refl _⟩, rfl, ⟨_, rfl, .refl _⟩, rfl, trivial⟩
          · rw [if_pos (.inl (by simpa using h0))] at g1 g2
            refine hn _ (k + 1) (Weak.of _ _ [some 11, some 1000000000] (by simp) (by simp) ?_ ?_) (by omega) (by omega)
            · simp -implicitDefEqProofs only [ints, rows, Nat.reduceBEq, wkR, Nat.reduceEqDiff, ↓reduceIte, wrR, q0lb h9 (by omega), g1, g2]
            · exact ⟨⟨_, rfl, .refl _⟩, rfl, ⟨_, rfl, .refl _⟩, rfl, trivial⟩
        · simp -implicitDefEqProofs only [go_sem, evR, ints, rows, rat, rats, srch, nodes, decide_eq_false (show ¬ (k : Int) < (x.ch.length : Int) by omega)]
          refine he _ _ ?_
          simp -implicitDefEqProofs only [go_sem, evR, ints, rows, rat, rats, srch, nodes]
          have hke : k = x.ch.length := by omega
          have hcl1 : 1 <= x.ch.length := ((q0ks (t2 _ _ hx)).2.2.2.2.1 h2).2
          have hgl := q01e vs k (by omega)
          have hge : q01b.go k vs = q01b vs := by rw [q01c, hvl, hke]
          rw [q0jc, List.length_replicate]
          refine ⟨by omega, by omega, by omega, by omega, by omega, ?_⟩
          rw [show x.ch.take k = x.ch by rw [hke, List.take_length]]
          refine ⟨_, Weak.open 1000000000 6 500 rfl rfl rfl (by decide) rfl, ?_⟩
          simp -implicitDefEqProofs only [go_sem, evR, ints, rows, rat, rats, List.lookup_cons, beq_self_eq_true, Nat.reduceBEq]
          have hset := q0ha (pl := pl) hg hi (by rw [hxd]; exact h3) hown
          have hrowA : q0q7 (sets g pl).length (x.ch.foldl F B) := by
            refine q09n (q0q7 (sets g pl).length) _ _ hBl fun B' c' _ hB' => ?_
            rw [← hF]; exact q01v t2 f _ _ _ _ hB'
          have hslt := q0qy (pl := pl) hi hown (by rw [hxd]; exact h3)
          have hrl1 := hrowA.1
          refine q004.pure hset [] rfl Try.call221 (fun e R' hR => ?_) (by first | trivial | simp [T.noSh, T.noShL, rat]) (fun _ => rfl) ?_
          · simp -implicitDefEqProofs only [agR, Nat.reduceLeDiff, Nat.reduceSub, vaR, go_sem, ints, rows, rat, rats, q0p1, rtR, intsO, q0qa]
          simp -implicitDefEqProofs only [go_sem, evR, ints, rows, rat, rats, q0qa]
          refine ⟨by omega, by omega, by omega, ?_⟩
          refine ⟨_, Weak.join2 Try.prog q0wk (sl 120) (sl 121) rfl rfl rfl rfl (by decide) (by simp), ?_⟩
          simp -implicitDefEqProofs only [go_sem, evR, ints, rows, rat, rats]
          refine ⟨?_, ?_⟩
          · rw [List.map_set, intsO, List.map_set, List.map_replicate, hge]
          · rw [cntA, if_neg (by omega), hge]
    · have h3 : x.p ≠ pl := by simpa using h3
      have hpo : x.p = 1 - pl := by
        obtain ⟨⟨q1, q2⟩, _⟩ := q0ks (t2 _ _ hx)
        omega
      have hpd : (g.nd.getD i nd0).p = 1 - pl := by rw [hxd]; exact hpo
      generalize hF : (fun (B : List (List Int)) (k : Nat) => q01u g ot pl own f (x.ch.getD k 0).toNat (q0lc g ot pl i reach k) (p - 1) B) = F at hB0
      generalize hG : (fun k => q01z g ot pl own f (x.ch.getD k 0).toNat (q0lc g ot pl i reach k) (p - 1)) = G at hV0
      rw [hB0 h2 h3, hV0 h2 h3]
      refine SemC.loopR (σ := Nat) (fun k => St.of [(0, .own 1000000000), (1, .t (.i i)), (2, .t (.i own)), (3, .t (ints reach)), (4, .t (.i p)), (11, .own 11), (22, .t (.i (sumI ((List.range k).map G)))), (23, .t (.i k))] [(11, .box [.i x.p, .i x.a, .i x.b, .i x.f, ints x.ch]), (1000000000, srch g ot pl ((List.range k).foldl F B))]) (fun k => k <= x.ch.length) (fun k => x.ch.length - k) 0 (Weak.of _ _ [some 11, some 1000000000] (by simp) (by simp) ?_ ?_) (by omega) fun k hk R hn hr he => ?_
      · simp -implicitDefEqProofs only [ints, rows, Nat.reduceBEq, wkR, Nat.reduceEqDiff, ↓reduceIte, wrR, List.range_zero, List.map_nil, show sumI [] = 0 from rfl]
      · exact ⟨⟨_, rfl, .refl _⟩, rfl, ⟨_, rfl, .refl _⟩, rfl, trivial⟩
      · rcases Nat.lt_or_ge k x.ch.length with h9 | h9
        · obtain ⟨c, hc⟩ : ∃ c, x.ch[k]? = some c := ⟨_, List.getElem?_eq_getElem h9⟩
          simp -implicitDefEqProofs only [go_sem, evR, ints, rows, rat, rats, srch, nodes, hc, decide_eq_true (show (k : Int) < (x.ch.length : Int) by omega)]
          have hnl : (q0lc g ot pl i reach k).length = reach.length := q0lf _ _ _ _ _ _
          refine SemC.loopR (σ := Nat) (fun b => St.of [(0, .own 1000000000), (1, .t (.i i)), (2, .t (.i own)), (3, .t (ints reach)), (4, .t (.i p)), (11, .own 11), (22, .t (.i (sumI ((List.range k).map G)))), (23, .t (.i k)), (24, .own 77), (25, .t (.i b))] [(11, .box [.i x.p, .i x.a, .i x.b, .i x.f, ints x.ch]), (77, .arr 1 (((q0lc g ot pl i reach k).take b).map T.i)), (1000000000, srch g ot pl ((List.range k).foldl F B))]) (fun b => b <= reach.length) (fun b => reach.length - b) 0 (Weak.of _ _ [some 11, some 143, some 1000000000] (by simp) (by simp) ?_ ?_) (by omega) fun b hb R2 hn2 hr2 he2 => ?_
          · simp -implicitDefEqProofs only [ints, rows, Nat.reduceBEq, wkR, Nat.reduceEqDiff, ↓reduceIte, wrR, List.take_zero, srch, nodes]
          · exact ⟨⟨_, rfl, .refl _⟩, rfl, ⟨_, rfl, .refl _⟩, rfl, ⟨_, rfl, .refl _⟩, rfl, trivial⟩
          · rcases Nat.lt_or_ge b reach.length with h8 | h8
            · obtain ⟨y, hy⟩ : ∃ y, reach[b]? = some y := ⟨_, List.getElem?_eq_getElem h8⟩
              simp -implicitDefEqProofs only [go_sem, evR, ints, rows, rat, rats, srch, nodes, hy, decide_eq_true (show (b : Int) < (reach.length : Int) by omega)]
              obtain ⟨o1, o2, o3⟩ := hot i b hi (by omega) hpd
              obtain ⟨r, hr1⟩ : ∃ r, ot[setI g (1 - pl) i b]? = some r := by
                cases h : ot[setI g (1 - pl) i b]? with
                | some r => exact ⟨r, rfl⟩
                | none =>
                  rw [partsOf, List.getD_eq_getElem?_getD, h, hxd] at o1
                  simp at o1
                  omega
              have hrp : partsOf g ot (1 - pl) i b = r := by rw [partsOf, List.getD_eq_getElem?_getD, hr1]; rfl
              rw [hrp] at o1 o2
              rw [hxd] at o1
              obtain ⟨y2, hy2⟩ : ∃ y2, r[k]? = some y2 := ⟨_, List.getElem?_eq_getElem (by omega)⟩
              have hy2b := o2 y2 (List.mem_of_getElem? hy2)
              refine ⟨by omega, by omega, by omega, ?_⟩
              rw [wrap64 (n := 1 - pl) (by omega) (by omega)]
              refine q004.pure (q0ha (pl := 1 - pl) (c := b) hg hi hpd (by omega)) [] rfl Try.call221 (fun e R' hR => ?_) (by first | trivial | simp [T.noSh, T.noShL, rat]) (fun _ => rfl) ?_
              · simp -implicitDefEqProofs only [agR, Nat.reduceLeDiff, Nat.reduceSub, vaR, go_sem, ints, rows, rat, rats, q0p1, rtR, intsO, q0qa]
              simp -implicitDefEqProofs only [go_sem, evR, ints, rows, rat, rats, hr1, hy2]
              have hslt := (List.getElem?_eq_some_iff.1 hr1).1
              have hyb : 0 <= y /\ y <= 41990400000 := by
                have h1 := q0p7 hr0 b
                rw [List.getD_eq_getElem?_getD, hy] at h1
                have h2 := q0ok p
                have h3 := q0u4 hr0
                have h4 := Int.mul_le_mul_of_nonneg_left (show (1 : Int) <= pw p by omega) h3
                unfold q05g at hcap
                simp only [Option.getD_some] at h1
                omega
              have hm1 := Int.mul_nonneg hyb.1 hy2b.1
              have hm2 : y * y2 <= 41990400000 * 60 := Int.mul_le_mul hyb.2 hy2b.2 hy2b.1 (by decide)
              have hnx : (q0lc g ot pl i reach k)[b]? = some (y * y2) := by
                rw [q0lc, List.getElem?_map, List.getElem?_range (by omega), Option.map_some, hrp, List.getD_eq_getElem?_getD, hy, List.getD_eq_getElem?_getD, hy2]; rfl
              refine ⟨by omega, by omega, by omega, by omega, by omega, by omega, by rw [List.length_take]; omega, hn2 _ (b + 1) (Weak.of _ _ [some 11, some 179, some 1000000000] (by simp) (by simp) ?_ ?_) (by omega) (by omega)⟩
              · simp -implicitDefEqProofs only [ints, rows, Nat.reduceBEq, wkR, Nat.reduceEqDiff, ↓reduceIte, wrR, srch, nodes, q0lb h8 (by omega)]
              · refine ⟨⟨_, rfl, .refl _⟩, rfl, ⟨_, rfl, ?_⟩, rfl, ⟨_, rfl, .refl _⟩, rfl, trivial⟩
                rw [q0uj hnx, List.map_append, wrap64 (n := y * y2) (by omega) (by omega)]; exact .refl _
            · simp -implicitDefEqProofs only [go_sem, evR, ints, rows, rat, rats, srch, nodes, hc, decide_eq_false (show ¬ (b : Int) < (reach.length : Int) by omega)]
              refine he2 _ _ ?_
              simp -implicitDefEqProofs only [go_sem, evR, ints, rows, rat, rats, srch, nodes, hc]
              have hbl : b = reach.length := by omega
              have htk : (q0lc g ot pl i reach k).take b = q0lc g ot pl i reach k := List.take_of_length_le (by omega)
              rw [htk]
              refine ⟨_, Weak.trans (Weak.share 77 rfl) (Weak.of [(0, .own 1000000000), (1, .t (.i i)), (2, .t (.i own)), (3, .t (ints reach)), (4, .t (.i p)), (11, .own 11), (22, .t (.i (sumI ((List.range k).map G)))), (23, .t (.i k)), (24, .t (ints (q0lc g ot pl i reach k)))] [(11, .box [.i x.p, .i x.a, .i x.b, .i x.f, ints x.ch]), (1000000000, srch g ot pl ((List.range k).foldl F B))] [some 11, some 1000000000] (by simp) (by simp) ?_ ?_), ?_⟩
              · simp -implicitDefEqProofs only [ints, rows, Nat.reduceBEq, wkR, Nat.reduceEqDiff, ↓reduceIte, wrR, q0rg, srch, nodes, T.toSh, T.toShL_eq_map, List.map_map]
                exact .inr (.inl rfl)
              · exact ⟨⟨_, rfl, .refl _⟩, rfl, ⟨_, rfl, .refl _⟩, rfl, trivial⟩
              · simp -implicitDefEqProofs only [go_sem, evR, ints, rows, rat, rats, srch, nodes, hc]
                refine ⟨by omega, by omega, by omega, ?_⟩
                have hp1 : 1 <= p := by omega
                obtain ⟨p', rfl⟩ : ∃ p', p = p' + 1 := ⟨p - 1, by omega⟩
                have hcm := List.mem_of_getElem? hc
                have hcb := hch c hcm
                have hcd := d2 c hcm
                have hcd0 : x.ch.getD k 0 = c := by rw [List.getD_eq_getElem?_getD, hc]; rfl
                have hch1 : ∀ j, j < x.ch.length -> -capV <= G j /\ G j <= capV := fun j hj => by
                  have hmj := q0cq (0 : Int) hj
                  have hjb := hch _ hmj
                  have hjd := d2 _ hmj
                  rw [← hG]
                  exact q021 t2 hpl hot (by omega) (by rw [q0lf]; exact hrl) (q0lg hot hi hrl hpd hr0 j) (by omega) (q05i hot hi hrl hpd hr0 hcap (by rw [hxd]; exact hj))
                have hs1 := q0u5 (G := G) (c := capV) (n := k) fun j hj => hch1 j (by omega)
                have hs2 := hch1 k h9
                have hcv : capV = 4199040000000 := rfl
                have hk4 : (k : Int) * capV <= 4 * capV := Int.mul_le_mul_of_nonneg_right (by omega) (by decide)
                have hrow : q0q7 (sets g pl).length ((List.range k).foldl F B) := by
                  refine q09n (q0q7 (sets g pl).length) _ _ hBl fun B' c' _ hB' => ?_
                  rw [← hF]; exact q01v t2 f _ _ _ _ hB'
                have hcall := ih c.toNat (q0lc g ot pl i reach k) p' ((List.range k).foldl F B) (by omega) (by omega) (by omega) (q0lg hot hi hrl hpd hr0 k) (by omega) (by omega) (q05i hot hi hrl hpd hr0 hcap (by rw [hxd]; omega)) hrow
                rw [show ((c.toNat : Nat) : Int) = c by omega, show q01u g ot pl own f c.toNat (q0lc g ot pl i reach k) p' ((List.range k).foldl F B) = (List.range (k + 1)).foldl F B by rw [List.range_succ, List.foldl_append, ← hF, List.foldl_cons, List.foldl_nil]; simp only [hcd0, Nat.add_sub_cancel], show q01z g ot pl own f c.toNat (q0lc g ot pl i reach k) p' = G k by rw [← hG]; simp only [hcd0, Nat.add_sub_cancel]] at hcall
                have hsg : sumI ((List.range (k + 1)).map G) = sumI ((List.range k).map G) + G k := by rw [List.range_succ, List.map_append, List.map_cons, List.map_nil, q0u7]
                simp only [srch, nodes, rows, ints] at hcall
                rw [wrap64 (n := ((p' + 1 : Nat) : Int) - 1) (by omega) (by omega), show ((p' + 1 : Nat) : Int) - 1 = (p' : Int) by omega]
                refine q006.ref hcall [1000000000] [] rfl Try.call189 (by simp) ?_ (by simp) ?_ (.inl rfl) ?_
                · simp -implicitDefEqProofs only [srR, Nat.reduceEqDiff, ↓reduceIte, ints, rows, intsO, q0qa]
                · simp -implicitDefEqProofs only [agR, Nat.reduceLeDiff, Nat.reduceSub, vaR, go_sem, ints, rows, rat, rats, q0p1, rtR, intsO, q0qa]
                simp -implicitDefEqProofs only [clR, Nat.reduceLeDiff, go_sem, evR, rat]
                refine hn _ (k + 1) (Weak.of _ _ [some 11, some 1000000000] (by simp) (by simp) ?_ ?_) (by omega) (by omega)
                · simp -implicitDefEqProofs only [ints, rows, Nat.reduceBEq, wkR, Nat.reduceEqDiff, ↓reduceIte, wrR, srch, nodes, q0lb h9 (by omega), hsg, wrap64 (n := sumI ((List.range k).map G) + G k) (by omega) (by omega)]
                · refine ⟨⟨_, rfl, .refl _⟩, rfl, ⟨_, rfl, ?_⟩, rfl, trivial⟩
                  rw [List.range_succ]; exact .refl _
        · simp -implicitDefEqProofs only [go_sem, evR, ints, rows, rat, rats, srch, nodes, decide_eq_false (show ¬ (k : Int) < (x.ch.length : Int) by omega)]
          refine he _ _ ?_
          simp -implicitDefEqProofs only [go_sem, evR, ints, rows, rat, rats]
          rw [show k = x.ch.length by omega]
          exact ⟨rfl, rfl⟩
end
end Go.Ab

/- Games as data: no strategy does better than the best; bounds of the number of a game. -/
namespace Go.Ab

def q10l (pl : Int) (s t : List (List Int)) : List (List Int) := if pl = 0 then s else t
def otOf (pl : Int) (s t : List (List Int)) : List (List Int) := if pl = 0 then t else s
theorem q12x (F : Int -> Int -> Int) : ∀ (l m : List Int), l.length = m.length -> sumI (List.zipWith F l m) = sumI ((List.range m.length).map fun k => F (l.getD k 0) (m.getD k 0))
  | [], [], _ => rfl
  | x :: l, y :: m, h => by
    rw [List.zipWith_cons_cons, sumI, q12x F l m (by simpa using h), List.length_cons, List.range_succ_eq_map, List.map_cons, List.map_map, sumI]
    rfl
theorem q0z1 (g : Gm) : ((dpt g : Nat) : Int) = dep g.nd g.nd.length 0 := by
  have := (q07x (l := g.nd) g.nd.length 0).1
  unfold dpt; omega
end Go.Ab

/- Games as data: the parts of a tree below its nodes; what a best response writes. -/
namespace Go.Ab

def q107 (l : List Nd) (i j : Nat) : Prop := i < l.length /\ (l.getD i nd0).p ≠ 2 /\ (j : Int) ∈ (l.getD i nd0).ch
inductive Rch (l : List Nd) : Nat -> Nat -> Prop
  | refl (i : Nat) : Rch l i i
  | step {i j k : Nat} : Rch l i j -> q107 l j k -> Rch l i k
theorem q10b {l : List Nd} (h : q0l2 l) {i j : Nat} (hk : q107 l i j) : i < j /\ j < l.length := by
  obtain ⟨h1, h2, h3⟩ := hk
  have hx : l[i]? = some (l.getD i nd0) := by rw [List.getD_eq_getElem?_getD, List.getElem?_eq_getElem h1]; rfl
  have := q0kp (h i _ hx) _ h3
  omega
theorem Rch.le {l : List Nd} (h : q0l2 l) {i j : Nat} (hr : Rch l i j) : i <= j := by
  induction hr with
  | refl => exact Nat.le_refl _
  | step _ hk ih => have := q10b h hk; omega
theorem q10v {l : List Nd} {i j : Nat} (hk : q107 l i j) : 1 <= occ j [l.getD i nd0] := by
  obtain ⟨h1, h2, h3⟩ := hk
  have := List.count_pos_iff.2 h3
  simp only [occ, List.map_cons, List.map_nil, if_neg h2, List.sum_cons, List.sum_nil]
  omega
theorem q10u (c : Nat) (l l' : List Nd) : occ c (l ++ l') = occ c l + occ c l' := by simp [occ]
theorem q10x {l : List Nd} {i i' j : Nat} (hii : i < i') (h : q107 l i j) (h' : q107 l i' j) : 2 <= occ j l := by
  have hl' : i' < l.length := h'.1
  have hl : i < l.length := h.1
  have e1 : l = l.take i' ++ (l.getD i' nd0) :: l.drop (i' + 1) := by
    have : l.getD i' nd0 = l[i']'hl' := by simp [List.getD_eq_getElem?_getD, List.getElem?_eq_getElem hl']
    rw [this, ← List.drop_eq_getElem_cons hl', List.take_append_drop]
  have hil : i < (l.take i').length := by rw [List.length_take]; omega
  have e2 : l.take i' = (l.take i').take i ++ (l.getD i nd0) :: (l.take i').drop (i + 1) := by
    have : l.getD i nd0 = (l.take i')[i]'hil := by simp [List.getElem_take, List.getD_eq_getElem?_getD, List.getElem?_eq_getElem hl]
    rw [this, ← List.drop_eq_getElem_cons hil, List.take_append_drop]
  have o1 := q10v h
  have o2 := q10v h'
  have e3 : occ j (l.getD i' nd0 :: l.drop (i' + 1)) = occ j [l.getD i' nd0] + occ j (l.drop (i' + 1)) := q10u j [_] _
  have e4 : occ j (l.getD i nd0 :: (l.take i').drop (i + 1)) = occ j [l.getD i nd0] + occ j ((l.take i').drop (i + 1)) := q10u j [_] _
  have e5 : occ j l = occ j (l.take i') + occ j (l.getD i' nd0 :: l.drop (i' + 1)) := by
    conv => lhs; rw [e1]
    exact q10u _ _ _
  have e6 : occ j (l.take i') = occ j ((l.take i').take i) + occ j (l.getD i nd0 :: (l.take i').drop (i + 1)) := by
    conv => lhs; rw [e2]
    exact q10u _ _ _
  omega
theorem q10d {l : List Nd} (h : q0l2 l) (ho : ∀ i, i < l.length -> i = 0 ∨ occ i l = 1) {i i' j : Nat} (hk : q107 l i j) (hk' : q107 l i' j) : i = i' := by
  have hj := q10b h hk
  have h1 := (ho j hj.2).resolve_left (by omega)
  rcases Nat.lt_trichotomy i i' with h2 | h2 | h2
  · have := q10x h2 hk hk'; omega
  · exact h2
  · have := q10x h2 hk' hk; omega
theorem Rch.up {l : List Nd} {i j : Nat} (hr : Rch l i j) : j = i ∨ ∃ m, Rch l i m /\ q107 l m j := by
  cases hr with
  | refl => exact .inl rfl
  | step h hk => exact .inr ⟨_, h, hk⟩
theorem Rch.apart {l : List Nd} (h : q0l2 l) (ho : ∀ i, i < l.length -> i = 0 ∨ occ i l = 1) {i c1 c2 j : Nat} (k1 : q107 l i c1) (k2 : q107 l i c2) (h1 : Rch l c1 j) (h2 : Rch l c2 j) : c1 = c2 := by
  induction h1 with
  | refl =>
    rcases h2.up with e | ⟨m, hm, hk⟩
    · exact e
    · have := q10d h ho k1 hk
      subst this
      have := hm.le h
      have := q10b h k2
      omega
  | step hj hk ih =>
    rcases h2.up with e | ⟨m, hm, hk2⟩
    · subst e
      have := q10d h ho k2 hk
      subst this
      have := hj.le h
      have := q10b h k1
      omega
    · have := q10d h ho hk hk2
      subst this
      exact ih hm
theorem q10w {c : Nat} : ∀ {l : List Nd}, 1 <= occ c l -> ∃ i, q107 l i c
  | [], h => by simp [occ] at h
  | x :: l, h => by
    have e : occ c (x :: l) = occ c [x] + occ c l := q10u c [x] l
    by_cases h1 : 1 <= occ c l
    · obtain ⟨i, h2, h3, h4⟩ := q10w h1
      exact ⟨i + 1, by simpa using h2, h3, h4⟩
    · have h2 : 1 <= occ c [x] := by omega
      simp only [occ, List.map_cons, List.map_nil] at h2
      by_cases hp : x.p = 2
      · rw [if_pos hp] at h2; simp at h2
      · rw [if_neg hp] at h2
        exact ⟨0, by simp, hp, List.count_pos_iff.1 (by simpa using h2)⟩
end Go.Ab

/- Games as data: a best response is a strategy and attains the best value. -/
namespace Go.Ab

theorem q104 {l : List Nd} {pl : Int} : ∀ (n q : Nat) (x : Int), (idxs l pl n)[q]? = some x -> ∃ i : Nat, x = i /\ i < n /\ (l.getD i nd0).p = pl /\ (idxs l pl i).length = q
  | 0, q, x, h => by simp [idxs] at h
  | n + 1, q, x, h => by
    rw [q0ec] at h
    split at h
    · rename_i hp
      rcases Nat.lt_trichotomy q (idxs l pl n).length with h1 | h1 | h1
      · rw [List.getElem?_append_left h1] at h
        obtain ⟨i, e, hi, h2⟩ := q104 n q x h
        exact ⟨i, e, by omega, h2⟩
      · rw [List.getElem?_append_right (by omega), h1, Nat.sub_self] at h
        simp at h
        exact ⟨n, h.symm, by omega, hp, h1.symm⟩
      · rw [List.getElem?_eq_none (by simp; omega)] at h; cases h
    · obtain ⟨i, e, hi, h2⟩ := q104 n q x h
      exact ⟨i, e, by omega, h2⟩
theorem q11o {ns : List Int} {k : Nat} : ∀ {e : Nat}, e < (q0r3 ns k).length -> ∃ q c x, c < k /\ ns[q]? = some x /\ e = q * k + c /\ (q0r3 ns k)[e]? = some [x, (c : Int)] := by
  induction ns with
  | nil => intro e h; simp [q0r3] at h
  | cons n ns ih =>
    intro e h
    have e0 : q0r3 (n :: ns) k = ((List.range k).map fun c : Nat => [n, (c : Int)]) ++ q0r3 ns k := rfl
    rw [e0, List.length_append, List.length_map, List.length_range] at h
    by_cases he : e < k
    · refine ⟨0, e, n, he, rfl, by omega, ?_⟩
      rw [e0, List.getElem?_append_left (by simpa using he), List.getElem?_map, List.getElem?_range he]; rfl
    · obtain ⟨q, c, x, h1, h2, h3, h4⟩ := ih (e := e - k) (by omega)
      refine ⟨q + 1, c, x, h1, h2, by rw [Nat.add_mul]; omega, ?_⟩
      rw [e0, List.getElem?_append_right (by simpa using he), List.length_map, List.length_range]; exact h4
theorem q11p {g : Gm} {pl : Int} {e : Nat} (h : e < (sets g pl).length) : ∃ i c, i < g.nd.length /\ c < g.w.length /\ (g.nd.getD i nd0).p = pl /\ e = setI g pl i c /\ q0rh g pl e = (g.nd.getD i nd0).ch.length := by
  obtain ⟨q, c, x, h1, h2, h3, h4⟩ := q11o h
  obtain ⟨i, rfl, hi, hp, hq⟩ := q104 _ _ _ h2
  refine ⟨i, c, hi, h1, hp, by rw [setI, hq]; exact h3, ?_⟩
  have e0 : (sets g pl).getD e [] = [(i : Int), (c : Int)] := by rw [List.getD_eq_getElem?_getD]; rw [show (sets g pl)[e]? = some [(i : Int), (c : Int)] from h4]; rfl
  rw [q0rh, e0]; rfl
end Go.Ab

/- Games as data: where a player's nodes have their sets; the reach as it is made. -/
namespace Go.Ab

def q0z5 (ns : List Int) (k n : Nat) : Nat -> List Int
  | 0 => List.replicate n 0
  | j + 1 => (q0z5 ns k n j).set (ns.getD j 0).toNat ((j * k : Nat) : Int)
theorem q0z7 (ns : List Int) (k n : Nat) : ∀ j, (q0z5 ns k n j).length = n
  | 0 => by simp [q0z5]
  | j + 1 => by rw [q0z5, List.length_set, q0z7 ns k n j]
def ownL (g : Gm) (pl : Int) : List Int := q0z5 (idxs g.nd pl g.nd.length) g.w.length g.nd.length (idxs g.nd pl g.nd.length).length
theorem q10z (g : Gm) (pl : Int) : (ownL g pl).length = g.nd.length := q0z7 _ _ _ _
theorem q105 (l : List Nd) (pl : Int) (n : Nat) : (idxs l pl n).Nodup := by
  unfold idxs
  have h : ((List.range n).filter fun i => decide ((l.getD i nd0).p = pl)).Nodup := List.nodup_range.sublist List.filter_sublist
  refine List.Pairwise.map _ (fun a b hab => ?_) h
  intro he
  exact hab (by have he : (a : Int) = b := he; omega)
theorem q0z6 {ns : List Int} {k n i q0 : Nat} (hn : ns.Nodup) (h0 : ∀ x ∈ ns, 0 <= x) (hq : ns[q0]? = some (i : Int)) (hi : i < n) : ∀ j, j <= ns.length -> (q0z5 ns k n j)[i]? = some (if q0 < j then ((q0 * k : Nat) : Int) else 0)
  | 0, _ => by
    rw [q0z5, List.getElem?_replicate, if_pos hi, if_neg (by omega)]
  | j + 1, hj => by
    have ih := q0z6 (k := k) hn h0 hq hi j (by omega)
    obtain ⟨hq1, hq2⟩ := List.getElem?_eq_some_iff.1 hq
    have hjd : ns.getD j 0 = ns[j]'(by omega) := by rw [List.getD_eq_getElem?_getD, List.getElem?_eq_getElem (by omega : j < ns.length)]; rfl
    have hj0 := h0 (ns[j]'(by omega)) (List.getElem_mem _)
    rw [q0z5, hjd, List.getElem?_set, q0z7]
    by_cases he : j = q0
    · subst he
      rw [hq2]
      simp only [Int.toNat_natCast, if_true]
      rw [if_pos hi, if_pos (by omega)]
    · have hne : ns[j]'(by omega) ≠ (i : Int) := fun h => by
        rcases Nat.lt_or_gt_of_ne he with h1 | h1
        · exact (List.pairwise_iff_getElem.1 hn j q0 (by omega) hq1 h1) (h.trans hq2.symm)
        · exact (List.pairwise_iff_getElem.1 hn q0 j hq1 (by omega) h1) (hq2.trans h.symm)
      rw [if_neg (by omega), ih]
      by_cases h2 : q0 < j
      · rw [if_pos h2, if_pos (by omega)]
      · rw [if_neg h2, if_neg (by omega)]
theorem q10y {g : Gm} {pl : Int} {i : Nat} (hi : i < g.nd.length) (hp : (g.nd.getD i nd0).p = pl) : (ownL g pl)[i]? = some (((idxs g.nd pl i).length * g.w.length : Nat) : Int) := by
  obtain ⟨rest, e⟩ := q0eb g.nd pl hp g.nd.length hi
  have hq : (idxs g.nd pl g.nd.length)[(idxs g.nd pl i).length]? = some (i : Int) := by
    rw [e, List.getElem?_append_right (Nat.le_refl _), Nat.sub_self]; rfl
  have h0 : ∀ x ∈ idxs g.nd pl g.nd.length, 0 <= x := fun x hx => by
    obtain ⟨j, rfl, _⟩ := q0ea hx; omega
  have hlt := (List.getElem?_eq_some_iff.1 hq).1
  have := q0z6 (k := g.w.length) (q105 g.nd pl g.nd.length) h0 hq hi _ (Nat.le_refl _)
  rw [if_pos hlt] at this
  exact this
end Go.Ab

/- Contracts: the best number and the first best response, the reference's. -/
namespace Go.Ab
open Go.Proofs

theorem q07t {g : Gm} (hg : q0fl g = true) {pl : Int} (hpl : pl = 0 ∨ pl = 1) {own b : Nat} (ho : own < g.w.length) (hb : b < g.w.length) : ∃ (u v : Nat) (r : List Int) (y : Int), fstC pl own b = u /\ fstC pl b own = v /\ g.w[u]? = some r /\ r[v]? = some y /\ (q0p4 g pl own)[b]? = some y /\ u < g.w.length /\ v < r.length := by
  have e0 : (q0p4 g pl own)[b]? = some (if pl = 0 then (g.w.getD own []).getD b 0 else (g.w.getD b []).getD own 0) := by
    unfold q0p4; rw [List.getElem?_map, List.getElem?_range hb]; rfl
  rcases hpl with rfl | rfl
  · obtain ⟨r, y, h1, h2, _⟩ := q0cn hg ho hb
    refine ⟨own, b, r, y, rfl, rfl, h1, h2, ?_, ho, (List.getElem?_eq_some_iff.1 h2).1⟩
    rw [e0, if_pos rfl]; simp only [List.getD_eq_getElem?_getD, h1, Option.getD_some, h2]
  · obtain ⟨r, y, h1, h2, _⟩ := q0cn hg hb ho
    refine ⟨b, own, r, y, rfl, rfl, h1, h2, ?_, hb, (List.getElem?_eq_some_iff.1 h2).1⟩
    rw [e0, if_neg (by decide)]; simp only [List.getD_eq_getElem?_getD, h1, Option.getD_some, h2]
theorem cap0 {g : Gm} (hg : q0fl g = true) (pl : Int) (own : Nat) : q05g (q0p4 g pl own) (dpt g) /\ (∀ x ∈ q0p4 g pl own, 0 <= x) := by
  obtain ⟨_, hk, hw, _, _, _⟩ := q0fo hg
  obtain ⟨_, _, _, _, _, h1, h2⟩ := q0cm hg
  have hb := q0p5 hw pl own
  have hs := q0u1 (b := 9) fun x hx => (hb x hx).2
  rw [q0p6] at hs
  have hs0 := q0u4 fun x hx => (hb x hx).1
  refine ⟨?_, fun x hx => (hb x hx).1⟩
  unfold q05g
  have h3 : sumI (q0p4 g pl own) <= 54 := by omega
  have := Int.mul_le_mul h3 h2 (by omega) (by decide)
  omega
theorem Le.bc {a a' : T} {l l' : List T} (h : Le a a') (hl : Le (.box l) (.box l')) : Le (.box (a :: l)) (.box (a' :: l')) := by
  have hb : l.length = l'.length /\ ∀ i (h : i < l.length) (h' : i < l'.length), Le l[i] l'[i] := by
    cases hl with
    | refl => exact ⟨rfl, fun i _ _ => .refl _⟩
    | box h1 h2 => exact ⟨h1, h2⟩
  refine .box (by simp [hb.1]) fun i hi hi' => ?_
  cases i with
  | zero => exact h
  | succ i => exact hb.2 i (by simpa using hi) (by simpa using hi')
theorem Le.nilRows (n : Nat) : Le (.arr 1 (List.replicate n (.v (.slice none 0 0)))) (q0qa (List.replicate n [])) := by
  refine .arr 1 (by simp) fun i h h' => ?_
  simp only [List.getElem_replicate, List.getElem_map]
  exact .nilArr 1
theorem q0qj {g : Gm} (hg : q0fl g = true) {ot : List (List Int)} {pl : Int} (hpl : pl = 0 ∨ pl = 1) (hot : q0nw g ot (1 - pl)) (n : Nat) : -(n * capV) <= runV g ot pl n /\ runV g ot pl n <= n * capV := by
  obtain ⟨p1, hk, hw, _, _, _⟩ := q0fo hg
  obtain ⟨t1, t2, t3, t4⟩ := q0g0 p1
  unfold runV
  refine q0u5 fun own _ => ?_
  have hc := cap0 hg pl own
  exact q021 t2 hpl hot (by omega) (q0p6 g pl own) hc.2 (by rw [q0z1]; exact Int.le_refl _) hc.1
def runT (g : Gm) (ot : List (List Int)) (pl : Int) : T := .tup [.i (runV g ot pl g.w.length), .agg [.i pl, q0qa (runB g ot pl g.w.length)]]
section
attribute [-go_sem] q0i5 q0id fldC lenC idxC q0ip q0lp
theorem q0sq {g : Gm} {ot : List (List Int)} {pl : Int} (hg : q0fl g = true) (hpl : pl = 0 ∨ pl = 1) (hot : q0nw g ot (1 - pl)) : Fun Try.prog 132 [] [.t (q0ck g), .t (q0tu (1 - pl, ot))] fun o r => o = [] /\ r = runT g ot pl := by
  obtain ⟨p1, p2, p3, p4, p5⟩ := q0fn hg
  obtain ⟨t1, t2, t3, t4⟩ := q0g0 p1
  obtain ⟨u1, u2, u3, u4, u5, u6, u7⟩ := q0cm hg
  have hsl := q0re g pl t1.2 p2.2
  have hrv := q0qj (n := g.w.length) hg hpl hot
  refine q0c4 (by simp) ?_
  simp -implicitDefEqProofs only [go_sem, evR, ints, rows, rat, rats, q056, q0ck, q0tu, nodes]
  rw [wrap64 (n := 1 - (1 - pl)) (by omega) (by omega), show 1 - (1 - pl) = pl by omega]
  refine q000.res (q0h9 g pl t1.2 p2.2) [] rfl Try.call186 (fun e R' hR => ?_) (.inl rfl) ?_
  · simp -implicitDefEqProofs only [agR, Nat.reduceLeDiff, Nat.reduceSub, vaR, go_sem, ints, rows, rat, rats, q0p1, rtR, intsO, q0qa]
  simp -implicitDefEqProofs only [clR, Nat.reduceLeDiff, go_sem, evR, rat, q0qa, q0jc, List.length_map]
  refine ⟨by omega, by omega, ?_⟩
  refine SemC.loopR (σ := Nat) (fun k => St.of [(2, .own 2), (5, .own 5), (6, .own 19), (7, .t (.i (runV g ot pl k))), (8, .t (.i k))] [(2, .box [nodes g.nd, rows g.w, rows g.v]), (5, .box [.i 0, .v (.slice none 0 0)]), (19, srch g ot pl (runB g ot pl k))]) (fun k => k <= g.w.length) (fun k => g.w.length - k) 0 (Weak.of _ _ [some 2, some 5, some 19] (by simp) (by simp) ?_ ?_) (by omega) fun k hk R hn hr he => ?_
  · simp -implicitDefEqProofs only [ints, rows, Nat.reduceBEq, wkR, Nat.reduceEqDiff, ↓reduceIte, wrR, nodes, runV, List.range_zero, List.map_nil, sumI]
  · refine ⟨⟨_, rfl, .refl _⟩, rfl, ⟨_, rfl, .refl _⟩, rfl, ⟨_, rfl, ?_⟩, rfl, trivial⟩
    refine .bc (.refl _) (.bc (.refl _) (.bc (.refl _) (.bc (.refl _) (.bc (.refl _) (.bc (.refl _) (.bc ?_ (.refl _)))))))
    exact Le.nilRows _
  · rcases Nat.lt_or_ge k g.w.length with h9 | h9
    · simp -implicitDefEqProofs only [go_sem, evR, ints, rows, rat, rats, srch, nodes, decide_eq_true (show (k : Int) < (g.w.length : Int) by omega)]
      refine SemC.loopR (σ := Nat) (fun b => St.of [(2, .own 2), (5, .own 5), (6, .own 19), (7, .t (.i (runV g ot pl k))), (8, .t (.i k)), (9, .own 77), (10, .t (.i b))] [(2, .box [nodes g.nd, rows g.w, rows g.v]), (5, .box [.i 0, .v (.slice none 0 0)]), (19, srch g ot pl (runB g ot pl k)), (77, .arr 1 (((q0p4 g pl k).take b).map T.i))]) (fun b => b <= g.w.length) (fun b => g.w.length - b) 0 (Weak.of _ _ [some 2, some 5, some 19, some 38] (by simp) (by simp) ?_ ?_) (by omega) fun b hb R2 hn2 hr2 he2 => ?_
      · simp -implicitDefEqProofs only [ints, rows, Nat.reduceBEq, wkR, Nat.reduceEqDiff, ↓reduceIte, wrR, nodes, srch]
      · exact ⟨⟨_, rfl, .refl _⟩, rfl, ⟨_, rfl, .refl _⟩, rfl, ⟨_, rfl, .refl _⟩, rfl, ⟨_, rfl, .refl _⟩, rfl, trivial⟩
      · have hrl := q0p6 g pl k
        rcases Nat.lt_or_ge b g.w.length with h8 | h8
        · obtain ⟨u, v, r, y, d1, d2, d3, d4, d5, d6, d7⟩ := q07t hg hpl h9 h8
          simp -implicitDefEqProofs only [go_sem, evR, ints, rows, rat, rats, srch, nodes, decide_eq_true (show (b : Int) < (g.w.length : Int) by omega)]
          refine q006.ref (q0hb g ot (runB g ot pl k) pl k b) [19] [] rfl Try.call188 (by simp) ?_ (by simp) ?_ (.inl rfl) ?_
          · simp -implicitDefEqProofs only [srR, Nat.reduceEqDiff, ↓reduceIte, ints, rows, intsO, q0qa]
          · simp -implicitDefEqProofs only [agR, Nat.reduceLeDiff, Nat.reduceSub, vaR, go_sem, ints, rows, rat, rats, q0p1, rtR, intsO, q0qa]
          simp -implicitDefEqProofs only [clR, Nat.reduceLeDiff, go_sem, evR, rat, d1, d2, d3, d4, ints]
          refine ⟨by omega, by omega, by omega, by omega, by omega, by omega, by rw [List.length_take]; omega, hn2 _ (b + 1) (Weak.of _ _ [some 2, some 5, some 19, some 63] (by simp) (by simp) ?_ ?_) (by omega) (by omega)⟩
          · simp -implicitDefEqProofs only [ints, rows, Nat.reduceBEq, wkR, Nat.reduceEqDiff, ↓reduceIte, wrR, nodes, srch, q0lb h8 (by omega)]
          · refine ⟨⟨_, rfl, .refl _⟩, rfl, ⟨_, rfl, .refl _⟩, rfl, ⟨_, rfl, .refl _⟩, rfl, ⟨_, rfl, ?_⟩, rfl, trivial⟩
            rw [q0uj d5, List.map_append]; exact .refl _
        · simp -implicitDefEqProofs only [go_sem, evR, ints, rows, rat, rats, srch, nodes, decide_eq_false (show ¬ (b : Int) < (g.w.length : Int) by omega)]
          refine he2 _ _ ?_
          simp -implicitDefEqProofs only [go_sem, evR, ints, rows, rat, rats, srch, nodes]
          rw [List.take_of_length_le (show (q0p4 g pl k).length <= b by omega)]
          refine ⟨_, Weak.trans (Weak.share 77 rfl) (Weak.of [(2, .own 2), (5, .own 5), (6, .own 19), (7, .t (.i (runV g ot pl k))), (8, .t (.i k)), (9, .t (ints (q0p4 g pl k)))] [(2, .box [nodes g.nd, rows g.w, rows g.v]), (5, .box [.i 0, .v (.slice none 0 0)]), (19, srch g ot pl (runB g ot pl k))] [some 2, some 5, some 19] (by simp) (by simp) ?_ ?_), ?_⟩
          · simp -implicitDefEqProofs only [ints, rows, Nat.reduceBEq, wkR, Nat.reduceEqDiff, ↓reduceIte, wrR, q0rg, srch, nodes, T.toSh, T.toShL_eq_map, List.map_map]
            exact .inr (.inl rfl)
          · exact ⟨⟨_, rfl, .refl _⟩, rfl, ⟨_, rfl, .refl _⟩, rfl, ⟨_, rfl, .refl _⟩, rfl, trivial⟩
          · simp -implicitDefEqProofs only [go_sem, evR, ints, rows, rat, rats, srch, nodes]
            refine q006.pure (q080 (q0s8 t2 (by omega) g.nd.length 0 (by omega) (by omega) (by omega))) [] rfl Try.call158 ?_ (by first | trivial | simp [T.noSh, T.noShL, rat]) rfl ?_
            · simp -implicitDefEqProofs only [agR, Nat.reduceLeDiff, Nat.reduceSub, vaR, go_sem, ints, rows, rat, rats, q0p1, rtR, intsO, q0qa]
            simp -implicitDefEqProofs only [go_sem, evR, ints, rows, rat, rats]
            rw [u2]
            have hc := cap0 hg pl k
            have hcall := q0sr hg hpl hot h9 g.nd.length 0 (q0p4 g pl k) (dpt g) (runB g ot pl k) (by omega) (by omega) hrl hc.2 (by rw [q0z1]; exact Int.le_refl _) u3 hc.1 (q0qh t2 ot pl k)
            rw [← q0qi] at hcall
            simp only [srch, nodes, rows, ints] at hcall
            have hv1 := q0qj hg hpl hot k
            have hv2 := q0qj hg hpl hot (k + 1)
            have hcv : capV = 4199040000000 := rfl
            have hk6 : ((k + 1 : Nat) : Int) * capV <= 6 * capV := Int.mul_le_mul_of_nonneg_right (by omega) (by decide)
            rw [q0qk] at hv2
            refine q006.ref hcall [19] [] rfl Try.call189 (by simp) ?_ (by simp) ?_ (.inl rfl) ?_
            · simp -implicitDefEqProofs only [srR, Nat.reduceEqDiff, ↓reduceIte, ints, rows, intsO, q0qa]
            · simp -implicitDefEqProofs only [agR, Nat.reduceLeDiff, Nat.reduceSub, vaR, go_sem, ints, rows, rat, rats, q0p1, rtR, intsO, q0qa]
            simp -implicitDefEqProofs only [clR, Nat.reduceLeDiff, go_sem, evR, rat]
            refine hn _ (k + 1) (Weak.of _ _ [some 2, some 5, some 19] (by simp) (by simp) ?_ ?_) (by omega) (by omega)
            · simp -implicitDefEqProofs only [ints, rows, Nat.reduceBEq, wkR, Nat.reduceEqDiff, ↓reduceIte, wrR, srch, nodes, q0lb h9 (by omega), wrap64 (n := runV g ot pl k + q01z g ot pl k g.nd.length 0 (q0p4 g pl k) (dpt g)) (by omega) (by omega), q0qk]
            · exact ⟨⟨_, rfl, .refl _⟩, rfl, ⟨_, rfl, .refl _⟩, rfl, ⟨_, rfl, .refl _⟩, rfl, trivial⟩
    · simp -implicitDefEqProofs only [go_sem, evR, ints, rows, rat, rats, srch, nodes, decide_eq_false (show ¬ (k : Int) < (g.w.length : Int) by omega)]
      refine he _ _ ?_
      simp -implicitDefEqProofs only [go_sem, evR, ints, rows, rat, rats]
      refine ⟨_, Weak.open 19 6 500 rfl rfl rfl (by decide) rfl, ?_⟩
      simp -implicitDefEqProofs only [go_sem, evR, ints, rows, rat, rats, List.lookup_cons, beq_self_eq_true, Nat.reduceBEq]
      rw [show k = g.w.length by omega]; rfl
end

def rbox (g : Gm) (ot : List (List Int)) (pl : Int) (card : Int) (B : List (List Int)) : T := .box [nodes g.nd, rows g.w, rows g.v, .i pl, .i card, ints (ownL g pl), ints (ownL g (1 - pl)), rows ot, .i pl, q0qa B]
def uS (g : Gm) (pl : Int) (i own : Nat) (reach : List Int) (k : Nat) : Int := sumI ((List.range k).map fun c => reach.getD c 0 * payP g pl i own c)
theorem q0wv (g : Gm) (pl : Int) (i own : Nat) (reach : List Int) (k : Nat) : uS g pl i own reach (k + 1) = uS g pl i own reach k + reach.getD k 0 * payP g pl i own k := by
  unfold uS
  rw [List.range_succ, List.map_append, List.map_cons, List.map_nil, q0u7]
theorem q0wu {g : Gm} {pl : Int} {i own : Nat} {reach : List Int} {p : Nat} (hp : q0nz g) (h0 : ∀ x ∈ reach, 0 <= x) (hc : q05g reach p) (k : Nat) : -(k * capV) <= uS g pl i own reach k /\ uS g pl i own reach k <= k * capV := by
  unfold uS
  refine q0u5 fun c _ => ?_
  obtain ⟨h1, h2⟩ := q0o2 hp pl i own c
  exact (q0ul h0 hc (c := c) h1 h2).2
theorem q0o5 {g : Gm} (hg : q0fl g = true) (i a b : Nat) (hi : i < g.nd.length) (ha : a < g.w.length) (hb : b < g.w.length) : Pure Try.prog 213 [.agg [.sh 5 (chunk q0lu g.nd), .sh 1 (g.w.map ints), .sh 1 (g.v.map ints)], .i i, .i a, .i b] (.i (pay g i a b)) := q0ew g hg i a b hi ha hb
theorem q05h {reach : List Int} {p : Nat} (h0 : ∀ x ∈ reach, 0 <= x) (hc : q05g reach (p + 1)) : q05g reach p := by
  have h1 := q0u4 h0
  have h2 := Int.mul_le_mul_of_nonneg_left (q0oi (show p <= p + 1 by omega)) h1
  unfold q05g at hc ⊢
  omega
section
attribute [-go_sem] q0i5 q0id fldC lenC idxC q0ip q0lp
theorem q0ey {g : Gm} {ot : List (List Int)} {pl : Int} {own : Nat} (hg : q0fl g = true) (hpl : pl = 0 ∨ pl = 1) (hot : q0nw g ot (1 - pl)) (hown : own < g.w.length) : ∀ (f i : Nat) (reach : List Int) (p : Nat) (B : List (List Int)), g.nd.length <= i + f -> i < g.nd.length -> reach.length = g.w.length -> (∀ x ∈ reach, 0 <= x) -> dep g.nd f i <= p -> p <= 5 -> q05g reach p -> q0q7 (sets g pl).length B →
    Fun Try.prog 182 [rbox g ot pl own B] [.own 1000000000, .t (.i i), .t (ints reach), .t (.i p)] fun o r => o = [rbox g ot pl own (q01u g ot pl own f i reach p B)] /\ r = .i (q01z g ot pl own f i reach p) := by
  obtain ⟨p1, p2, p3, p4, p5⟩ := q0fn hg
  obtain ⟨t1, t2, t3, t4⟩ := q0g0 p1
  have hpay := q0o0 t2
  have hcv : capV = 4199040000000 := rfl
  intro f
  induction f with
  | zero => intro i reach p B h1 h2; omega
  | succ f ih =>
    intro i reach p B hf hi hrl hr0 hdp hp5 hcap hBl
    obtain ⟨x, hx⟩ : ∃ x, g.nd[i]? = some x := ⟨_, List.getElem?_eq_getElem hi⟩
    have hxd : g.nd.getD i nd0 = x := by rw [List.getD_eq_getElem?_getD, hx]; rfl
    have hxl := (q0ks (t2 _ _ hx)).2.2.2.2.2
    have hB2 : x.p = 2 -> q01u g ot pl own (f + 1) i reach p B = B := fun h => by rw [q01u]; simp only [hxd]; rw [if_pos h]
    have hV2 : x.p = 2 -> q01z g ot pl own (f + 1) i reach p = uS g pl i own reach reach.length * pw p := fun h => by rw [q01z]; simp only [hxd]; rw [if_pos h]; rfl
    have hB1 : x.p ≠ 2 -> x.p = pl -> q01u g ot pl own (f + 1) i reach p B = (x.ch.foldl (fun B c => q01u g ot pl own f c.toNat reach p B) B).set (setI g pl i own) ((List.replicate x.ch.length 0).set (q01b (x.ch.map fun c => q01z g ot pl own f c.toNat reach p)) 60) := fun h h' => by rw [q01u]; simp only [hxd]; rw [if_neg h, if_pos h']
    have hV1 : x.p ≠ 2 -> x.p = pl -> q01z g ot pl own (f + 1) i reach p = (x.ch.map fun c => q01z g ot pl own f c.toNat reach p).getD (q01b (x.ch.map fun c => q01z g ot pl own f c.toNat reach p)) 0 := fun h h' => by rw [q01z]; simp only [hxd]; rw [if_neg h, if_pos h']
    have hB0 : x.p ≠ 2 -> x.p ≠ pl -> q01u g ot pl own (f + 1) i reach p B = (List.range x.ch.length).foldl (fun B k => q01u g ot pl own f (x.ch.getD k 0).toNat (q0lc g ot pl i reach k) (p - 1) B) B := fun h h' => by rw [q01u]; simp only [hxd]; rw [if_neg h, if_neg h']
    have hV0 : x.p ≠ 2 -> x.p ≠ pl -> q01z g ot pl own (f + 1) i reach p = sumI ((List.range x.ch.length).map fun k => q01z g ot pl own f (x.ch.getD k 0).toNat (q0lc g ot pl i reach k) (p - 1)) := fun h h' => by rw [q01z]; simp only [hxd]; rw [if_neg h, if_neg h']
    generalize q01u g ot pl own (f + 1) i reach p B = B' at hB2 hB1 hB0 ⊢
    generalize q01z g ot pl own (f + 1) i reach p = V' at hV2 hV1 hV0 ⊢
    refine q0a7 (by simp) ?_
    simp -implicitDefEqProofs only [go_sem, evR, ints, rows, rat, rats, q039, rbox, nodes, q0kw hx]
    refine ⟨by omega, by rw [q0l0]; omega, by rw [q0l0]; omega, ?_⟩
    refine ⟨fun h2 => ?_, fun h2 => ?_⟩
    · have h2 : x.p = 2 := by simpa using h2
      rw [hB2 h2, hV2 h2]
      refine SemC.loopR (σ := Nat) (fun k => St.of [(0, .own 1000000000), (1, .t (.i i)), (2, .t (ints reach)), (3, .t (.i p)), (10, .t (.i (uS g pl i own reach k))), (38, .t (ints reach)), (39, .t (.i reach.length)), (40, .t (.i k))] [(1000000000, rbox g ot pl own B)]) (fun k => k <= reach.length) (fun k => reach.length - k) 0 (Weak.of _ _ [some 1000000000] (by simp) (by simp) ?_ ?_) (by omega) fun k hk R hn hr he => ?_
      · simp -implicitDefEqProofs only [ints, rows, Nat.reduceBEq, wkR, Nat.reduceEqDiff, ↓reduceIte, wrR, show uS g pl i own reach 0 = 0 by simp [uS, sumI]]
      · exact ⟨⟨_, rfl, .refl _⟩, rfl, trivial⟩
      · have m5 := q0wu (pl := pl) (i := i) (own := own) hpay hr0 hcap k
        have m7 : (k : Int) * capV <= 6 * capV := Int.mul_le_mul_of_nonneg_right (by omega) (by decide)
        rcases Nat.lt_or_ge k reach.length with h9 | h9
        · obtain ⟨y, hy⟩ : ∃ y, reach[k]? = some y := ⟨_, List.getElem?_eq_getElem h9⟩
          have hyd : reach.getD k 0 = y := by rw [List.getD_eq_getElem?_getD, hy]; rfl
          obtain ⟨q1, q2⟩ := q0o2 hpay pl i own k
          obtain ⟨_, m3, m4⟩ := q0ul hr0 hcap (c := k) q1 q2
          have m6 := q0wv g pl i own reach k
          rw [hyd] at m3 m4 m6
          simp -implicitDefEqProofs only [go_sem, evR, ints, rows, rat, rats, rbox, nodes, hy, decide_eq_true (show (k : Int) < (reach.length : Int) by omega)]
          refine ⟨by omega, by omega, by omega, fun h5 => ?_, fun h5 => ?_⟩
          · have h5 : pl = 0 := by simpa using h5
            have hP : payP g pl i own k = pay g i own k := by rw [payP, if_pos h5]
            rw [hP] at m3 m4 m6 q1 q2
            refine q004.pure (q0o5 hg i own k hi hown (by omega)) [] rfl Try.call213 (fun e R' hR => ?_) (by first | trivial | simp [T.noSh, T.noShL, rat]) (fun _ => rfl) ?_
            · simp -implicitDefEqProofs only [agR, Nat.reduceLeDiff, Nat.reduceSub, vaR, go_sem, ints, rows, rat, rats, q0p1, rtR, intsO, q0qa]
            simp -implicitDefEqProofs only [go_sem, evR, ints, rows, rat, rats]
            refine hn _ (k + 1) (Weak.of _ _ [some 1000000000] (by simp) (by simp) ?_ ?_) (by omega) (by omega)
            · simp -implicitDefEqProofs only [ints, rows, Nat.reduceBEq, wkR, Nat.reduceEqDiff, ↓reduceIte, wrR, rbox, nodes, q0lb h9 (by omega), wrap64 (n := y * pay g i own k) (by omega) (by omega), ← m6, wrap64 (n := uS g pl i own reach (k + 1)) (by omega) (by omega)]
            · exact ⟨⟨_, rfl, .refl _⟩, rfl, trivial⟩
          · have h5 : ¬ pl = 0 := by simpa using h5
            have hP : payP g pl i own k = -pay g i k own := by rw [payP, if_neg h5]
            rw [hP] at m3 m4 m6 q1 q2
            rw [Int.mul_neg] at m3 m4 m6
            refine q004.pure (q0o5 hg i k own hi (by omega) hown) [] rfl Try.call213 (fun e R' hR => ?_) (by first | trivial | simp [T.noSh, T.noShL, rat]) (fun _ => rfl) ?_
            · simp -implicitDefEqProofs only [agR, Nat.reduceLeDiff, Nat.reduceSub, vaR, go_sem, ints, rows, rat, rats, q0p1, rtR, intsO, q0qa]
            simp -implicitDefEqProofs only [go_sem, evR, ints, rows, rat, rats]
            refine hn _ (k + 1) (Weak.of _ _ [some 1000000000] (by simp) (by simp) ?_ ?_) (by omega) (by omega)
            · simp -implicitDefEqProofs only [ints, rows, Nat.reduceBEq, wkR, Nat.reduceEqDiff, ↓reduceIte, wrR, rbox, nodes, q0lb h9 (by omega), wrap64 (n := y * pay g i k own) (by omega) (by omega), Int.sub_eq_add_neg, ← m6, wrap64 (n := uS g pl i own reach (k + 1)) (by omega) (by omega)]
            · exact ⟨⟨_, rfl, .refl _⟩, rfl, trivial⟩
        · simp -implicitDefEqProofs only [go_sem, evR, ints, rows, rat, rats, rbox, nodes, decide_eq_false (show ¬ (k : Int) < (reach.length : Int) by omega)]
          refine he _ _ ?_
          simp -implicitDefEqProofs only [go_sem, evR, ints, rows, rat, rats]
          have hke : k = reach.length := by omega
          have m8 := q0ug (pl := pl) (i := i) (own := own) hpay hr0 hcap reach.length
          have m9 : (reach.length : Int) * capV <= 6 * capV := Int.mul_le_mul_of_nonneg_right (by omega) (by decide)
          have m10 : tS g pl i own reach p reach.length = uS g pl i own reach reach.length * pw p := rfl
          refine q006.pure (q0ex p (by omega)) [] rfl Try.call163 ?_ (by first | trivial | simp [T.noSh, T.noShL, rat]) rfl ?_
          · simp -implicitDefEqProofs only [agR, Nat.reduceLeDiff, Nat.reduceSub, vaR, go_sem, ints, rows, rat, rats, q0p1, rtR, intsO, q0qa]
          simp -implicitDefEqProofs only [go_sem, evR, ints, rows, rat, rats]
          rw [hke, wrap64 (n := uS g pl i own reach reach.length * pw p) (by omega) (by omega)]
    have h2 : x.p ≠ 2 := by simpa using h2
    have hp2 : (g.nd.getD i nd0).p ≠ 2 := by rw [hxd]; exact h2
    obtain ⟨d1, d2⟩ := q07w (f := f) hp2
    rw [hxd] at d2
    have hch := q0kp (t2 _ _ hx)
    have hset : setI g pl i own = (idxs g.nd pl i).length * g.w.length + own := rfl
    have hp1 : 1 <= p := by omega
    obtain ⟨p', rfl⟩ : ∃ p', p = p' + 1 := ⟨p - 1, by omega⟩
    have hcapl := q05h hr0 hcap
    refine ⟨fun h3 => ?_, fun h3 => ?_⟩
    · have h3 : x.p = pl := by simpa using h3
      have hpd : (g.nd.getD i nd0).p = pl := by rw [hxd]; exact h3
      have hVm : (x.ch.map fun c => q01z g ot pl own f c.toNat reach (p' + 1)) = (x.ch.map fun c => q01z g ot pl own f c.toNat reach p').map fun x => 60 * x := by
        rw [List.map_map]
        exact List.map_congr_left fun c hc => q022 f c.toNat reach p' (by have := d2 c hc; omega)
      have hBm : (x.ch.foldl (fun B c => q01u g ot pl own f c.toNat reach (p' + 1) B) B) = x.ch.foldl (fun B c => q01u g ot pl own f c.toNat reach p' B) B := q09m _ _ fun B c hc => q01w f c.toNat reach p' B (by have := d2 c hc; omega)
      have hB1 := hB1 h2 h3
      have hV1 := hV1 h2 h3
      rw [hVm, q01g, q0cp] at hV1
      rw [hVm, q01g, hBm] at hB1
      generalize hF : (fun (B : List (List Int)) (c : Int) => q01u g ot pl own f c.toNat reach p' B) = F at hB1
      generalize hvs : (x.ch.map fun c => q01z g ot pl own f c.toNat reach p') = vs at hB1 hV1
      have hvl : vs.length = x.ch.length := by rw [← hvs, List.length_map]
      have hvb : ∀ y ∈ vs, -capV <= y /\ y <= capV := fun y hy => by
        rw [← hvs] at hy
        obtain ⟨c, hcm, rfl⟩ := List.mem_map.1 hy
        have hcb := hch c hcm
        have hcd := d2 c hcm
        exact q021 t2 hpl hot (by omega) hrl hr0 (by omega) hcapl
      rw [hB1, hV1]
      refine SemC.loopR (σ := Nat) (fun k => St.of [(0, .own 1000000000), (1, .t (.i i)), (2, .t (ints reach)), (3, .t (.i (p' + 1 : Nat))), (9, .own 9), (13, .t (.i (q01b.go k vs))), (14, .t (.i (cntA vs k))), (92, .t (ints x.ch)), (93, .t (.i x.ch.length)), (94, .t (.i k))] [(9, .box [.i x.p, .i x.a, .i x.b, .i x.f, ints x.ch]), (1000000000, rbox g ot pl own ((x.ch.take k).foldl F B))]) (fun k => k <= x.ch.length) (fun k => x.ch.length - k) 0 (Weak.of _ _ [some 9, some 1000000000] (by simp) (by simp) ?_ ?_) (by omega) fun k hk R hn hr he => ?_
      · simp -implicitDefEqProofs only [ints, rows, Nat.reduceBEq, wkR, Nat.reduceEqDiff, ↓reduceIte, wrR, show cntA vs 0 = 0 from rfl, show q01b.go 0 vs = 0 from rfl]
      · exact ⟨⟨_, rfl, .refl _⟩, rfl, ⟨_, rfl, .refl _⟩, rfl, trivial⟩
      · rcases Nat.lt_or_ge k x.ch.length with h9 | h9
        · obtain ⟨c, hc⟩ : ∃ c, x.ch[k]? = some c := ⟨_, List.getElem?_eq_getElem h9⟩
          have hcm := List.mem_of_getElem? hc
          have hcb := hch c hcm
          have hcd := d2 c hcm
          have hrow : q0q7 (sets g pl).length ((x.ch.take k).foldl F B) := by
            refine q09n (q0q7 (sets g pl).length) _ _ hBl fun B' c' _ hB' => ?_
            rw [← hF]; exact q01v t2 f _ _ _ _ hB'
          have hcall := ih c.toNat reach p' ((x.ch.take k).foldl F B) (by omega) (by omega) hrl hr0 (by omega) (by omega) hcapl hrow
          rw [show ((c.toNat : Nat) : Int) = c by omega, show q01u g ot pl own f c.toNat reach p' ((x.ch.take k).foldl F B) = (x.ch.take (k + 1)).foldl F B by rw [q09r F x.ch B hc, ← hF]] at hcall
          have hvk : vs[k]? = some (q01z g ot pl own f c.toNat reach p') := by rw [← hvs, List.getElem?_map, hc]; rfl
          obtain ⟨g1, g2⟩ := q0db hvk
          generalize q01z g ot pl own f c.toNat reach p' = n at hcall hvk g1 g2
          simp only [rbox, nodes, rows, ints] at hcall
          simp -implicitDefEqProofs only [go_sem, evR, ints, rows, rat, rats, rbox, nodes, hc, decide_eq_true (show (k : Int) < (x.ch.length : Int) by omega)]
          refine ⟨by omega, by omega, by omega, ?_⟩
          rw [wrap64 (n := ((p' + 1 : Nat) : Int) - 1) (by omega) (by omega), show ((p' + 1 : Nat) : Int) - 1 = (p' : Int) by omega]
          refine q006.ref hcall [1000000000] [] rfl Try.call182 (by simp) ?_ (by simp) ?_ (.inl rfl) ?_
          · simp -implicitDefEqProofs only [srR, Nat.reduceEqDiff, ↓reduceIte, ints, rows, intsO, q0qa]
          · simp -implicitDefEqProofs only [agR, Nat.reduceLeDiff, Nat.reduceSub, vaR, go_sem, ints, rows, rat, rats, q0p1, rtR, intsO, q0qa]
          simp -implicitDefEqProofs only [clR, Nat.reduceLeDiff, go_sem, evR, rat]
          refine ⟨fun h0 => ⟨fun h1 => ?_, fun h1 => ?_⟩, fun h0 => ?_⟩
          · rw [if_pos (.inr h1)] at g1 g2
            refine hn _ (k + 1) (Weak.of _ _ [some 9, some 1000000000] (by simp) (by simp) ?_ ?_) (by omega) (by omega)
            · simp -implicitDefEqProofs only [ints, rows, Nat.reduceBEq, wkR, Nat.reduceEqDiff, ↓reduceIte, wrR, q0lb h9 (by omega), g1, g2]
            · exact ⟨⟨_, rfl, .refl _⟩, rfl, ⟨_, rfl, .refl _⟩, rfl, trivial⟩
          · rw [if_neg (by rintro (h | h); (· rw [h] at h0; simp at h0); (· exact h1 h))] at g1 g2
            refine hn _ (k + 1) (Weak.of _ _ [some 9, some 1000000000] (by simp) (by simp) ?_ ?_) (by omega) (by omega)
            · simp -implicitDefEqProofs only [ints, rows, Nat.reduceBEq, wkR, Nat.reduceEqDiff, ↓reduceIte, wrR, q0lb h9 (by omega), g1, g2]
            · exact ⟨⟨_, rfl, .refl _⟩, rfl, ⟨_, rfl, .refl _⟩, rfl, trivial⟩
          · rw [if_pos (.inl (by simpa using h0))] at g1 g2
            refine hn _ (k + 1) (Weak.of _ _ [some 9, some 1000000000] (by simp) (by simp) ?_ ?_) (by omega) (by omega)
            · simp -implicitDefEqProofs only [ints, rows, Nat.reduceBEq, wkR, Nat.reduceEqDiff, ↓reduceIte, wrR, q0lb h9 (by omega), g1, g2]
            · exact ⟨⟨_, rfl, .refl _⟩, rfl, ⟨_, rfl, .refl _⟩, rfl, trivial⟩
        · simp -implicitDefEqProofs only [go_sem, evR, ints, rows, rat, rats, rbox, nodes, decide_eq_false (show ¬ (k : Int) < (x.ch.length : Int) by omega)]
          refine he _ _ ?_
          simp -implicitDefEqProofs only [go_sem, evR, ints, rows, rat, rats, rbox, nodes]
          have hke : k = x.ch.length := by omega
          have hcl1 : 1 <= x.ch.length := ((q0ks (t2 _ _ hx)).2.2.2.2.1 h2).2
          have hgl := q01e vs k (by omega)
          have hge : q01b.go k vs = q01b vs := by rw [q01c, hvl, hke]
          rw [q0jc, List.length_replicate]
          refine ⟨by omega, by omega, by omega, by omega, by omega, ?_⟩
          rw [show x.ch.take k = x.ch by rw [hke, List.take_length]]
          have hrowA : q0q7 (sets g pl).length (x.ch.foldl F B) := by
            refine q09n (q0q7 (sets g pl).length) _ _ hBl fun B' c' _ hB' => ?_
            rw [← hF]; exact q01v t2 f _ _ _ _ hB'
          have hslt := q0qy (pl := pl) hi hown hpd
          have hsl := q0re g pl t1.2 p2.2
          have hrl1 := hrowA.1
          have hoi := q10y hi hpd
          have hol := q10z g pl
          refine ⟨_, Weak.open 1000000000 9 500 rfl rfl rfl (by decide) rfl, ?_⟩
          simp -implicitDefEqProofs only [go_sem, evR, ints, rows, rat, rats, List.lookup_cons, beq_self_eq_true, Nat.reduceBEq, q0qa, hoi, wrap64 (n := ((setI g pl i own : Nat) : Int)) (by omega) (by omega), show (((idxs g.nd pl i).length * g.w.length : Nat) : Int) + (own : Int) = ((setI g pl i own : Nat) : Int) by omega]
          refine ⟨by omega, by omega, by omega, by omega, by omega, by omega, ?_⟩
          refine ⟨_, Weak.join2 Try.prog q0wk (sl 125) (sl 126) rfl rfl rfl rfl (by decide) (by simp), ?_⟩
          simp -implicitDefEqProofs only [go_sem, evR, ints, rows, rat, rats]
          have hcn : cntA vs k = vs.getD (q01b vs) 0 := by rw [cntA, if_neg (by omega), hge]
          have hvm : -capV <= vs.getD (q01b vs) 0 /\ vs.getD (q01b vs) 0 <= capV := hvb _ (q0cq 0 (by omega))
          refine ⟨?_, ?_⟩
          · rw [List.map_set, intsO, List.map_set, List.map_replicate, hge]
          · rw [hcn, wrap64 (n := vs.getD (q01b vs) 0 * 60) (by omega) (by omega), Int.mul_comm]
    · have h3 : x.p ≠ pl := by simpa using h3
      have hpo : x.p = 1 - pl := by
        obtain ⟨⟨q1, q2⟩, _⟩ := q0ks (t2 _ _ hx)
        omega
      have hpd : (g.nd.getD i nd0).p = 1 - pl := by rw [hxd]; exact hpo
      generalize hF : (fun (B : List (List Int)) (k : Nat) => q01u g ot pl own f (x.ch.getD k 0).toNat (q0lc g ot pl i reach k) (p' + 1 - 1) B) = F at hB0
      generalize hG : (fun k => q01z g ot pl own f (x.ch.getD k 0).toNat (q0lc g ot pl i reach k) (p' + 1 - 1)) = G at hV0
      rw [hB0 h2 h3, hV0 h2 h3]
      refine SemC.loopR (σ := Nat) (fun k => St.of [(0, .own 1000000000), (1, .t (.i i)), (2, .t (ints reach)), (3, .t (.i (p' + 1 : Nat))), (19, .t (.i (sumI ((List.range k).map G)))), (144, .t (ints x.ch)), (145, .t (.i x.ch.length)), (146, .t (.i k))] [(1000000000, rbox g ot pl own ((List.range k).foldl F B))]) (fun k => k <= x.ch.length) (fun k => x.ch.length - k) 0 (Weak.of _ _ [some 1000000000] (by simp) (by simp) ?_ ?_) (by omega) fun k hk R hn hr he => ?_
      · simp -implicitDefEqProofs only [ints, rows, Nat.reduceBEq, wkR, Nat.reduceEqDiff, ↓reduceIte, wrR, List.range_zero, List.map_nil, show sumI [] = 0 from rfl]
      · exact ⟨⟨_, rfl, .refl _⟩, rfl, trivial⟩
      · rcases Nat.lt_or_ge k x.ch.length with h9 | h9
        · obtain ⟨c, hc⟩ : ∃ c, x.ch[k]? = some c := ⟨_, List.getElem?_eq_getElem h9⟩
          simp -implicitDefEqProofs only [go_sem, evR, ints, rows, rat, rats, rbox, nodes, hc, q0jc, decide_eq_true (show (k : Int) < (x.ch.length : Int) by omega)]
          have hnl : (q0lc g ot pl i reach k).length = reach.length := q0lf _ _ _ _ _ _
          refine ⟨by omega, by omega, by omega, by omega, by omega, ?_⟩
          refine SemC.loopR (σ := Nat) (fun b => St.of [(0, .own 1000000000), (1, .t (.i i)), (2, .t (ints reach)), (3, .t (.i (p' + 1 : Nat))), (19, .t (.i (sumI ((List.range k).map G)))), (20, .t (.i k)), (21, .t (.i c)), (22, .own 77), (144, .t (ints x.ch)), (145, .t (.i x.ch.length)), (146, .t (.i k)), (154, .t (ints reach)), (155, .t (.i reach.length)), (156, .t (.i b))] [(77, .arr 1 (filled (q0lc g ot pl i reach k) T.i (.i 0) b)), (1000000000, rbox g ot pl own ((List.range k).foldl F B))]) (fun b => b <= reach.length) (fun b => reach.length - b) 0 (Weak.of _ _ [some 153, some 1000000000] (by simp) (by simp) ?_ ?_) (by omega) fun b hb R2 hn2 hr2 he2 => ?_
          · simp -implicitDefEqProofs only [ints, rows, Nat.reduceBEq, wkR, Nat.reduceEqDiff, ↓reduceIte, wrR, rbox, nodes]
          · refine ⟨⟨_, rfl, ?_⟩, rfl, ⟨_, rfl, .refl _⟩, rfl, trivial⟩
            rw [q097, hnl]; exact .refl _
          · have hfl := q095 (q0lc g ot pl i reach k) T.i (.i 0) b (by omega)
            rcases Nat.lt_or_ge b reach.length with h8 | h8
            · obtain ⟨y, hy⟩ : ∃ y, reach[b]? = some y := ⟨_, List.getElem?_eq_getElem h8⟩
              obtain ⟨o1, o2, o3⟩ := hot i b hi (by omega) hpd
              obtain ⟨r, hr1⟩ : ∃ r, ot[setI g (1 - pl) i b]? = some r := by
                cases h : ot[setI g (1 - pl) i b]? with
                | some r => exact ⟨r, rfl⟩
                | none =>
                  rw [partsOf, List.getD_eq_getElem?_getD, h, hxd] at o1
                  simp at o1
                  omega
              have hrp : partsOf g ot (1 - pl) i b = r := by rw [partsOf, List.getD_eq_getElem?_getD, hr1]; rfl
              rw [hrp] at o1 o2
              rw [hxd] at o1
              obtain ⟨y2, hy2⟩ : ∃ y2, r[k]? = some y2 := ⟨_, List.getElem?_eq_getElem (by omega)⟩
              have hy2b := o2 y2 (List.mem_of_getElem? hy2)
              have hslt := (List.getElem?_eq_some_iff.1 hr1).1
              have hyb : 0 <= y /\ y <= 41990400000 := by
                have h1 := q0p7 hr0 b
                rw [List.getD_eq_getElem?_getD, hy] at h1
                have h2 := q0ok p'
                have h3 := q0u4 hr0
                have h4 := Int.mul_le_mul_of_nonneg_left (show (1 : Int) <= pw p' by omega) h3
                unfold q05g at hcapl
                simp only [Option.getD_some] at h1
                omega
              have hm1 := Int.mul_nonneg hyb.1 hy2b.1
              have hm2 : y * y2 <= 41990400000 * 60 := Int.mul_le_mul hyb.2 hy2b.2 hy2b.1 (by decide)
              have hnx : (q0lc g ot pl i reach k)[b]? = some (y * y2) := by
                rw [q0lc, List.getElem?_map, List.getElem?_range (by omega), Option.map_some, hrp, List.getD_eq_getElem?_getD, hy, List.getD_eq_getElem?_getD, hy2]; rfl
              have hoi := q10y hi hpd
              have hol := q10z g (1 - pl)
              have hset : setI g (1 - pl) i b = (idxs g.nd (1 - pl) i).length * g.w.length + b := rfl
              have hsl := q0re g (1 - pl) t1.2 p2.2
              have hsi := q0qy (g := g) (pl := 1 - pl) hi (show b < g.w.length by omega) hpd
              simp -implicitDefEqProofs only [go_sem, evR, ints, rows, rat, rats, rbox, nodes, hy, hoi, hr1, hy2, hfl, decide_eq_true (show (b : Int) < (reach.length : Int) by omega), wrap64 (n := ((setI g (1 - pl) i b : Nat) : Int)) (by omega) (by omega), show (((idxs g.nd (1 - pl) i).length * g.w.length : Nat) : Int) + (b : Int) = ((setI g (1 - pl) i b : Nat) : Int) by omega]
              refine ⟨by omega, by omega, by omega, by omega, by omega, by omega, by omega, by omega, by omega, by omega, by omega, by omega, by omega, by omega, by omega, hn2 _ (b + 1) (Weak.of _ _ [some 77, some 1000000000] (by simp) (by simp) ?_ ?_) (by omega) (by omega)⟩
              · simp -implicitDefEqProofs only [ints, rows, Nat.reduceBEq, wkR, Nat.reduceEqDiff, ↓reduceIte, wrR, rbox, nodes, q0lb h8 (by omega)]
              · refine ⟨⟨_, rfl, ?_⟩, rfl, ⟨_, rfl, .refl _⟩, rfl, trivial⟩
                rw [wrap64 (n := y * y2) (by omega) (by omega), q096 hnx]; exact .refl _
            · simp -implicitDefEqProofs only [go_sem, evR, ints, rows, rat, rats, rbox, nodes, decide_eq_false (show ¬ (b : Int) < (reach.length : Int) by omega)]
              refine he2 _ _ ?_
              simp -implicitDefEqProofs only [go_sem, evR, ints, rows, rat, rats, rbox, nodes]
              have hbl : b = (q0lc g ot pl i reach k).length := by omega
              rw [hbl, q093]
              refine ⟨_, Weak.trans (Weak.share 77 rfl) (Weak.of [(0, .own 1000000000), (1, .t (.i i)), (2, .t (ints reach)), (3, .t (.i (p' + 1 : Nat))), (19, .t (.i (sumI ((List.range k).map G)))), (20, .t (.i k)), (21, .t (.i c)), (22, .t (ints (q0lc g ot pl i reach k))), (144, .t (ints x.ch)), (145, .t (.i x.ch.length)), (146, .t (.i k))] [(1000000000, rbox g ot pl own ((List.range k).foldl F B))] [some 1000000000] (by simp) (by simp) ?_ ?_), ?_⟩
              · simp -implicitDefEqProofs only [ints, rows, Nat.reduceBEq, wkR, Nat.reduceEqDiff, ↓reduceIte, wrR, q0rg, rbox, nodes, T.toSh, T.toShL_eq_map, List.map_map]
                exact .inr (.inl rfl)
              · exact ⟨⟨_, rfl, .refl _⟩, rfl, trivial⟩
              · simp -implicitDefEqProofs only [go_sem, evR, ints, rows, rat, rats, rbox, nodes, hc]
                have hcm := List.mem_of_getElem? hc
                have hcb := hch c hcm
                have hcd := d2 c hcm
                have hcd0 : x.ch.getD k 0 = c := by rw [List.getD_eq_getElem?_getD, hc]; rfl
                have hch1 : ∀ j, j < x.ch.length -> -capV <= G j /\ G j <= capV := fun j hj => by
                  have hmj := q0cq (0 : Int) hj
                  have hjb := hch _ hmj
                  have hjd := d2 _ hmj
                  rw [← hG]
                  exact q021 t2 hpl hot (by omega) (by rw [q0lf]; exact hrl) (q0lg hot hi hrl hpd hr0 j) (by omega) (q05i hot hi hrl hpd hr0 hcap (by rw [hxd]; exact hj))
                have hs1 := q0u5 (G := G) (c := capV) (n := k) fun j hj => hch1 j (by omega)
                have hs2 := hch1 k h9
                have hk4 : (k : Int) * capV <= 4 * capV := Int.mul_le_mul_of_nonneg_right (by omega) (by decide)
                have hrow : q0q7 (sets g pl).length ((List.range k).foldl F B) := by
                  refine q09n (q0q7 (sets g pl).length) _ _ hBl fun B' c' _ hB' => ?_
                  rw [← hF]; exact q01v t2 f _ _ _ _ hB'
                have hcall := ih c.toNat (q0lc g ot pl i reach k) p' ((List.range k).foldl F B) (by omega) (by omega) (by omega) (q0lg hot hi hrl hpd hr0 k) (by omega) (by omega) (q05i hot hi hrl hpd hr0 hcap (by rw [hxd]; omega)) hrow
                rw [show ((c.toNat : Nat) : Int) = c by omega, show q01u g ot pl own f c.toNat (q0lc g ot pl i reach k) p' ((List.range k).foldl F B) = (List.range (k + 1)).foldl F B by rw [List.range_succ, List.foldl_append, ← hF, List.foldl_cons, List.foldl_nil]; simp only [hcd0, Nat.add_sub_cancel], show q01z g ot pl own f c.toNat (q0lc g ot pl i reach k) p' = G k by rw [← hG]; simp only [hcd0, Nat.add_sub_cancel]] at hcall
                have hsg : sumI ((List.range (k + 1)).map G) = sumI ((List.range k).map G) + G k := by rw [List.range_succ, List.map_append, List.map_cons, List.map_nil, q0u7]
                simp only [rbox, nodes, rows, ints] at hcall
                rw [wrap64 (n := ((p' + 1 : Nat) : Int) - 1) (by omega) (by omega), show ((p' + 1 : Nat) : Int) - 1 = (p' : Int) by omega]
                refine q006.ref hcall [1000000000] [] rfl Try.call182 (by simp) ?_ (by simp) ?_ (.inl rfl) ?_
                · simp -implicitDefEqProofs only [srR, Nat.reduceEqDiff, ↓reduceIte, ints, rows, intsO, q0qa]
                · simp -implicitDefEqProofs only [agR, Nat.reduceLeDiff, Nat.reduceSub, vaR, go_sem, ints, rows, rat, rats, q0p1, rtR, intsO, q0qa]
                simp -implicitDefEqProofs only [clR, Nat.reduceLeDiff, go_sem, evR, rat]
                refine hn _ (k + 1) (Weak.of _ _ [some 1000000000] (by simp) (by simp) ?_ ?_) (by omega) (by omega)
                · simp -implicitDefEqProofs only [ints, rows, Nat.reduceBEq, wkR, Nat.reduceEqDiff, ↓reduceIte, wrR, rbox, nodes, q0lb h9 (by omega), hsg, wrap64 (n := sumI ((List.range k).map G) + G k) (by omega) (by omega)]
                · refine ⟨⟨_, rfl, ?_⟩, rfl, trivial⟩
                  rw [List.range_succ]; exact .refl _
        · simp -implicitDefEqProofs only [go_sem, evR, ints, rows, rat, rats, rbox, nodes, decide_eq_false (show ¬ (k : Int) < (x.ch.length : Int) by omega)]
          refine he _ _ ?_
          simp -implicitDefEqProofs only [go_sem, evR, ints, rows, rat, rats]
          rw [show k = x.ch.length by omega]
          exact ⟨rfl, rfl⟩
end
end Go.Ab
