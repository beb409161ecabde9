/- Games as data: parents of nodes, ways to them, and products along a way. -/
import Derived.Test.YtkmmkgpnlmdcfaaQ4
set_option linter.unusedSimpArgs false
set_option linter.unusedVariables false
namespace Go.Ab

def ixOf (x : Int) : List Int → Nat
  | [] => 0
  | y :: l => if y = x then 0 else ixOf x l + 1
theorem ixOf_get {x : Int} : ∀ {l : List Int}, x ∈ l → l[ixOf x l]? = some x
  | [], h => by simp at h
  | y :: l, h => by
    by_cases hy : y = x
    · rw [ixOf, if_pos hy, hy]; rfl
    · rw [ixOf, if_neg hy, List.getElem?_cons_succ]
      exact ixOf_get ((List.mem_cons.1 h).resolve_left fun e => hy e.symm)
theorem ixOf_first {x : Int} : ∀ {l : List Int} {k : Nat}, k < ixOf x l → l[k]? ≠ some x
  | [], k, h => by simp [ixOf] at h
  | y :: l, k, h => by
    by_cases hy : y = x
    · rw [ixOf, if_pos hy] at h; omega
    · rw [ixOf, if_neg hy] at h
      cases k with
      | zero => simpa using hy
      | succ k => rw [List.getElem?_cons_succ]; exact ixOf_first (by omega)
theorem ixOf_le {x : Int} : ∀ {l : List Int} {k : Nat}, l[k]? = some x → ixOf x l ≤ k := fun {l k} h => by
  rcases Nat.lt_or_ge k (ixOf x l) with h1 | h1
  · exact absurd h (ixOf_first h1)
  · exact h1
theorem foldl_set_get {i : Int} {j : Nat} : ∀ (cs : List Int) (P : List Int), (∀ c ∈ cs, 0 ≤ c) → j < P.length → (cs.foldl (fun P (c : Int) => P.set c.toNat i) P)[j]? = if (j : Int) ∈ cs then some i else P[j]?
  | [], P, _, _ => by simp
  | c :: cs, P, h0, hj => by
    rw [List.foldl_cons, foldl_set_get cs (P.set c.toNat i) (fun x hx => h0 x (by simp [hx])) (by rw [List.length_set]; exact hj)]
    have hc := h0 c (by simp)
    by_cases h1 : (j : Int) ∈ cs
    · rw [if_pos h1, if_pos (by simp [h1])]
    · rw [if_neg h1, List.getElem?_set]
      by_cases h2 : (j : Int) = c
      · have e1 : (j : Int) ∈ c :: cs := by simp [h2]
        rw [if_pos e1, if_pos (show c.toNat = j by omega), if_pos (show c.toNat < P.length by omega)]
      · have e1 : ¬ (j : Int) ∈ c :: cs := by simp [h1, h2]
        rw [if_neg e1, if_neg (show ¬ c.toNat = j by omega)]
theorem kid_of_mem {l : List Nd} (h : ndsOK l) {n j : Nat} (hn : n < l.length) (hm : (j : Int) ∈ (l.getD n nd0).ch) : isKid l n j := by
  refine ⟨hn, fun hp => ?_, hm⟩
  have hx : l[n]? = some (l.getD n nd0) := by rw [List.getD_eq_getElem?_getD, List.getElem?_eq_getElem hn]; rfl
  obtain ⟨_, _, _, h4, _⟩ := ndOK_fields (h n _ hx)
  rw [(h4 hp).1] at hm; simp at hm
def occOK (l : List Nd) : Prop := ∀ i, i < l.length → i = 0 ∨ occ i l = 1
theorem parN_get {l : List Nd} (h : ndsOK l) (ho : occOK l) {i j : Nat} (hk : isKid l i j) : ∀ n, n ≤ l.length → i < n → (parN l n)[j]? = some (i : Int)
  | 0, _, hi => absurd hi (by omega)
  | n + 1, hn, hi => by
    have hx : l[n]? = some (l.getD n nd0) := by rw [List.getD_eq_getElem?_getD, List.getElem?_eq_getElem (show n < l.length by omega)]; rfl
    have hc := ndOK_child (h n _ hx)
    rw [parN, foldl_set_get _ _ (fun c hc' => by have := hc c hc'; omega) (by rw [parN_length]; exact (kid_lt h hk).2)]
    by_cases hm : (j : Int) ∈ (l.getD n nd0).ch
    · rw [if_pos hm, kid_unique h ho hk (kid_of_mem h (by omega) hm)]
    · rw [if_neg hm]
      have : i ≠ n := fun e => hm (e ▸ hk.2.2)
      exact parN_get h ho hk n (by omega) (by omega)
def upN (l : List Nd) (j : Nat) : Nat := ((parN l l.length).getD j 0).toNat
theorem upN_eq {l : List Nd} (h : ndsOK l) (ho : occOK l) {i j : Nat} (hk : isKid l i j) : upN l j = i := by
  unfold upN
  rw [List.getD_eq_getElem?_getD, parN_get h ho hk l.length (Nat.le_refl _) hk.1]
  simp
theorem kid_up {l : List Nd} (h : ndsOK l) (ho : occOK l) {j : Nat} (h0 : 0 < j) (hj : j < l.length) : isKid l (upN l j) j := by
  obtain ⟨i, hk⟩ := occ_pos (c := j) (l := l) (by have := (ho j hj).resolve_left (by omega); omega)
  rw [upN_eq h ho hk]; exact hk
theorem parN_up {l : List Nd} (h : ndsOK l) (ho : occOK l) {j : Nat} (h0 : 0 < j) (hj : j < l.length) : (parN l l.length)[j]? = some ((upN l j : Nat) : Int) := by
  have hk := kid_up h ho h0 hj
  exact parN_get h ho hk _ (Nat.le_refl _) hk.1
theorem up_lt {l : List Nd} (h : ndsOK l) (ho : occOK l) {j : Nat} (h0 : 0 < j) (hj : j < l.length) : upN l j < j := (kid_lt h (kid_up h ho h0 hj)).1
def plc (l : List Nd) (j : Nat) : Nat := ixOf (j : Int) (l.getD (upN l j) nd0).ch
theorem plc_get {l : List Nd} (h : ndsOK l) (ho : occOK l) {j : Nat} (h0 : 0 < j) (hj : j < l.length) : (l.getD (upN l j) nd0).ch[plc l j]? = some (j : Int) := ixOf_get (kid_up h ho h0 hj).2.2

def wayF (l : List Nd) : Nat → Nat → List Int
  | 0, _ => []
  | f + 1, j => if j = 0 then [] else wayF l f (upN l j) ++ [(plc l j : Int)]
def ancF (l : List Nd) : Nat → Nat → List Nat
  | 0, j => [j]
  | f + 1, j => if j = 0 then [0] else ancF l f (upN l j) ++ [j]
def wayL (l : List Nd) (j : Nat) : List Int := wayF l j j
def ancL (l : List Nd) (j : Nat) : List Nat := ancF l j j
theorem wayF_stable {l : List Nd} (h : ndsOK l) (ho : occOK l) : ∀ (f f' j : Nat), j < l.length → j ≤ f → j ≤ f' → wayF l f j = wayF l f' j ∧ ancF l f j = ancF l f' j
  | 0, 0, j, _, _, _ => ⟨rfl, rfl⟩
  | 0, f' + 1, j, _, h1, _ => by obtain rfl : j = 0 := by omega
                                 exact ⟨rfl, rfl⟩
  | f + 1, 0, j, _, _, h1 => by obtain rfl : j = 0 := by omega
                                exact ⟨rfl, rfl⟩
  | f + 1, f' + 1, j, hj, h1, h2 => by
    rw [wayF, wayF, ancF, ancF]
    by_cases hz : j = 0
    · rw [if_pos hz, if_pos hz, if_pos hz, if_pos hz]; exact ⟨rfl, rfl⟩
    · rw [if_neg hz, if_neg hz, if_neg hz, if_neg hz]
      have hu := up_lt h ho (by omega) hj
      obtain ⟨e1, e2⟩ := wayF_stable h ho f f' (upN l j) (by omega) (by omega) (by omega)
      rw [e1, e2]; exact ⟨rfl, rfl⟩
theorem way_zero (l : List Nd) : wayL l 0 = [] := rfl
theorem way_up {l : List Nd} (h : ndsOK l) (ho : occOK l) {j : Nat} (h0 : 0 < j) (hj : j < l.length) : wayL l j = wayL l (upN l j) ++ [(plc l j : Int)] := by
  have hu := up_lt h ho h0 hj
  obtain ⟨j, rfl⟩ : ∃ k, j = k + 1 := ⟨j - 1, by omega⟩
  unfold wayL
  rw [wayF, if_neg (by omega), (wayF_stable h ho j (upN l (j + 1)) (upN l (j + 1)) (by omega) (by omega) (Nat.le_refl _)).1]
theorem anc_up {l : List Nd} (h : ndsOK l) (ho : occOK l) {j : Nat} (h0 : 0 < j) (hj : j < l.length) : ancL l j = ancL l (upN l j) ++ [j] := by
  have hu := up_lt h ho h0 hj
  obtain ⟨j, rfl⟩ : ∃ k, j = k + 1 := ⟨j - 1, by omega⟩
  unfold ancL
  rw [ancF, if_neg (by omega), (wayF_stable h ho j (upN l (j + 1)) (upN l (j + 1)) (by omega) (by omega) (Nat.le_refl _)).2]
theorem anc_spec {l : List Nd} (h : ndsOK l) (ho : occOK l) : ∀ (f j : Nat), j ≤ f → j < l.length → (ancL l j).length = (wayL l j).length + 1 ∧ (ancL l j)[0]? = some 0 ∧ (ancL l j)[(wayL l j).length]? = some j ∧ ∀ i, i < (wayL l j).length → ∃ m, (ancL l j)[i + 1]? = some m ∧ 0 < m ∧ m < l.length ∧ (ancL l j)[i]? = some (upN l m) ∧ (wayL l j)[i]? = some (plc l m : Int)
  | 0, j, h1, hj => by
    obtain rfl : j = 0 := by omega
    refine ⟨rfl, rfl, rfl, fun i hi => ?_⟩
    rw [way_zero] at hi; simp at hi
  | f + 1, j, h1, hj => by
    by_cases hz : j = 0
    · subst hz
      refine ⟨rfl, rfl, rfl, fun i hi => ?_⟩
      rw [way_zero] at hi; simp at hi
    · have hu := up_lt h ho (by omega) hj
      obtain ⟨i1, i2, i3, i4⟩ := anc_spec h ho f (upN l j) (by omega) (by omega)
      rw [way_up h ho (by omega) hj, anc_up h ho (by omega) hj]
      refine ⟨by simp [i1], by rw [List.getElem?_append_left (by omega)]; exact i2, by rw [List.getElem?_append_right (by simp; omega)]; simp [i1], fun i hi => ?_⟩
      rw [List.length_append, List.length_cons, List.length_nil] at hi
      rcases Nat.lt_or_ge i (wayL l (upN l j)).length with h9 | h9
      · obtain ⟨m, m1, m2, m3, m4, m5⟩ := i4 i h9
        exact ⟨m, by rw [List.getElem?_append_left (by omega)]; exact m1, m2, m3, by rw [List.getElem?_append_left (by omega)]; exact m4, by rw [List.getElem?_append_left (by omega)]; exact m5⟩
      · obtain rfl : i = (wayL l (upN l j)).length := by omega
        refine ⟨j, by rw [List.getElem?_append_right (by omega)]; simp [i1], by omega, hj, by rw [List.getElem?_append_left (by omega)]; exact i3, by rw [List.getElem?_append_right (by omega)]; simp⟩
theorem way_dep {l : List Nd} (h : ndsOK l) (ho : occOK l) : ∀ (f j : Nat), j ≤ f → j < l.length → ((wayL l j).length : Int) + dep l l.length j ≤ dep l l.length 0
  | 0, j, h1, hj => by
    obtain rfl : j = 0 := by omega
    rw [way_zero]; simp
  | f + 1, j, h1, hj => by
    by_cases hz : j = 0
    · subst hz; rw [way_zero]; simp
    · have hk := kid_up h ho (by omega) hj
      have hu := kid_lt h hk
      have ih := way_dep h ho f (upN l j) (by omega) (by omega)
      rw [way_up h ho (by omega) hj, List.length_append, List.length_cons, List.length_nil]
      obtain ⟨F, hF⟩ : ∃ F, l.length = F + 1 := ⟨l.length - 1, by omega⟩
      have hd := (dep_child (l := l) (f := F) (i := upN l j) hk.2.1).2 _ hk.2.2
      rw [← hF, Int.toNat_natCast, dep_stable h F l.length j (by omega) (by omega)] at hd
      omega
def wayQ (g : Gm) (S : List (List Int)) (pl : Int) (c : Nat) : Nat → Nat → Int
  | 0, _ => 1
  | f + 1, j => if j = 0 then 1 else wayQ g S pl c f (upN g.nd j) * (if (g.nd.getD (upN g.nd j) nd0).p = pl then (partsOf g S pl (upN g.nd j) c).getD (plc g.nd j) 0 else 1)
def wayP (g : Gm) (S : List (List Int)) (pl : Int) (c j : Nat) : Int := wayQ g S pl c j j
theorem wayQ_stable {g : Gm} {S : List (List Int)} {pl : Int} {c : Nat} (h : ndsOK g.nd) (ho : occOK g.nd) : ∀ (f f' j : Nat), j < g.nd.length → j ≤ f → j ≤ f' → wayQ g S pl c f j = wayQ g S pl c f' j
  | 0, 0, j, _, _, _ => rfl
  | 0, f' + 1, j, _, h1, _ => by obtain rfl : j = 0 := by omega
                                 rfl
  | f + 1, 0, j, _, _, h1 => by obtain rfl : j = 0 := by omega
                                rfl
  | f + 1, f' + 1, j, hj, h1, h2 => by
    rw [wayQ, wayQ]
    by_cases hz : j = 0
    · rw [if_pos hz, if_pos hz]
    · have hu := up_lt h ho (by omega) hj
      rw [if_neg hz, if_neg hz, wayQ_stable h ho f f' (upN g.nd j) (by omega) (by omega) (by omega)]
theorem wayP_zero (g : Gm) (S : List (List Int)) (pl : Int) (c : Nat) : wayP g S pl c 0 = 1 := rfl
theorem wayP_up {g : Gm} {S : List (List Int)} {pl : Int} {c : Nat} (h : ndsOK g.nd) (ho : occOK g.nd) {j : Nat} (h0 : 0 < j) (hj : j < g.nd.length) : wayP g S pl c j = wayP g S pl c (upN g.nd j) * (if (g.nd.getD (upN g.nd j) nd0).p = pl then (partsOf g S pl (upN g.nd j) c).getD (plc g.nd j) 0 else 1) := by
  have hu := up_lt h ho h0 hj
  obtain ⟨j, rfl⟩ : ∃ k, j = k + 1 := ⟨j - 1, by omega⟩
  unfold wayP
  rw [wayQ, if_neg (by omega), wayQ_stable h ho j (upN g.nd (j + 1)) (upN g.nd (j + 1)) (by omega) (by omega) (Nat.le_refl _)]
theorem part_bound {g : Gm} {S : List (List Int)} {pl : Int} (hS : partsOK g S pl) {i c : Nat} (hi : i < g.nd.length) (hc : c < g.w.length) (hp : (g.nd.getD i nd0).p = pl) (k : Nat) : 0 ≤ (partsOf g S pl i c).getD k 0 ∧ (partsOf g S pl i c).getD k 0 ≤ 60 := by
  obtain ⟨_, h2, _⟩ := hS i c hi hc hp
  rw [List.getD_eq_getElem?_getD]
  cases hx : (partsOf g S pl i c)[k]? with
  | none => simp
  | some x => exact h2 x (List.mem_of_getElem? hx)
theorem wayP_bound {g : Gm} {S : List (List Int)} {pl : Int} {c : Nat} (h : ndsOK g.nd) (ho : occOK g.nd) (hS : partsOK g S pl) (hc : c < g.w.length) : ∀ (f j : Nat), j ≤ f → j < g.nd.length → 0 ≤ wayP g S pl c j ∧ wayP g S pl c j ≤ pw (wayL g.nd j).length
  | 0, j, h1, hj => by
    obtain rfl : j = 0 := by omega
    rw [wayP_zero, way_zero]; decide
  | f + 1, j, h1, hj => by
    by_cases hz : j = 0
    · subst hz; rw [wayP_zero, way_zero]; decide
    · have hu := up_lt h ho (by omega) hj
      obtain ⟨b1, b2⟩ := wayP_bound h ho hS hc f (upN g.nd j) (by omega) (by omega)
      rw [wayP_up h ho (by omega) hj, way_up h ho (by omega) hj, List.length_append, List.length_cons, List.length_nil, pw_succ, Int.mul_comm 60]
      have hb : 0 ≤ (if (g.nd.getD (upN g.nd j) nd0).p = pl then (partsOf g S pl (upN g.nd j) c).getD (plc g.nd j) 0 else 1) ∧ (if (g.nd.getD (upN g.nd j) nd0).p = pl then (partsOf g S pl (upN g.nd j) c).getD (plc g.nd j) 0 else 1) ≤ 60 := by
        split
        · rename_i hp
          exact part_bound hS (by omega) hc hp _
        · decide
      exact ⟨Int.mul_nonneg b1 hb.1, Int.mul_le_mul b2 hb.2 hb.1 (by have := pw_pos (wayL g.nd (upN g.nd j)).length; omega)⟩
end Go.Ab

/- Contracts: parts, the reference's. -/
set_option linter.unusedSimpArgs false
set_option linter.unusedVariables false
namespace Go.Ab
open Go.Proofs

theorem quoL_snoc {t : Int} {w : List Int} {i : Nat} {x : Int} (h : w[i]? = some x) : quoL t (w.take (i + 1)) = quoL t (w.take i) ++ [60 * x / t] := by rw [take_snoc h]; simp [quoL]
theorem remL_snoc {t : Int} {w : List Int} {i : Nat} {x : Int} (h : w[i]? = some x) : remL t (w.take (i + 1)) = remL t (w.take i) ++ [60 * x % t] := by rw [take_snoc h]; simp [remL]
def weightsOK (w : List Int) : Prop := 1 ≤ w.length ∧ w.length ≤ 4 ∧ ∀ x ∈ w, 0 ≤ x ∧ x ≤ 1000000000
theorem weights_small {w : List Int} (h : weightsOK w) : smallL w := ⟨by have := h.2.1; omega, fun x hx => by have := h.2.2 x hx; omega⟩
theorem quo_small {w : List Int} (h : weightsOK w) (ht : 0 < w.sum) : smallL (quoL w.sum w) := by
  refine ⟨by have := h.2.1; simp [quoL]; omega, fun y hy => ?_⟩
  obtain ⟨x, hx, rfl⟩ := List.mem_map.1 hy
  have hb := h.2.2 x hx
  have h1 := Int.ediv_nonneg (a := 60 * x) (b := w.sum) (by omega) (by omega)
  have h2 : 60 * x / w.sum ≤ 60 * x := Int.ediv_le_self _ (by omega)
  omega
theorem HamI.small {w : List Int} {t : Int} {m : Nat} {p r : List Int} (h : HamI w t m p r) (ht : 0 < t) {i : Nat} (hi : i < w.length) (hw : 0 ≤ w.getD i 0 ∧ w.getD i 0 ≤ 1000000000) : 0 ≤ p.getD i 0 ∧ p.getD i 0 ≤ 100000000000 := by
  have key : -t < t * p.getD i 0 ∧ t * p.getD i 0 < 60 * w.getD i 0 + t := by
    rcases h.each i hi with h1 | h1 <;> omega
  refine ⟨?_, ?_⟩
  · have h1 : t * (-1) < t * p.getD i 0 := by omega
    have := Int.lt_of_mul_lt_mul_left h1 (by omega)
    omega
  · have h1 := Int.mul_le_mul_of_nonneg_right (show (1 : Int) ≤ t by omega) (show 0 ≤ 60 * w.getD i 0 by omega)
    have h2 : t * p.getD i 0 < t * (60 * w.getD i 0 + 1) := by rw [Int.mul_add, Int.mul_one]; omega
    have := Int.lt_of_mul_lt_mul_left h2 (by omega)
    omega
theorem spec_l22Parts1_ok (w : List Int) (hw : weightsOK w) (ht : 0 < w.sum) : Fun Try.prog 172 [] [.t (ints w)] fun o r => o = [] ∧ r = intsO (ham1 w) := by
  have hs := weights_small hw
  have hsum : w.sum ≤ 1000000000000000 := by have := smallL_sum hs w.length; rw [List.take_length] at this; omega
  obtain ⟨hw1, hw2, hw3⟩ := hw
  refine fun_spec_l22Parts (by simp) ?_
  simp -implicitDefEqProofs only [go_sem, evR, ints, rows, rat, rats, c_spec_l22Parts]
  refine CallW.pure (spec_l01Sum_ok w hs) [] rfl Try.call187 ?_ (by first | trivial | simp [T.noSh, T.noShL, rat]) rfl ?_
  · simp -implicitDefEqProofs only [agR, Nat.reduceLeDiff, Nat.reduceSub, vaR, go_sem, ints, rows, rat, rats, ratsO, rtR, intsO, rowsO]
  simp -implicitDefEqProofs only [go_sem, evR, ints, rows, rat, rats]
  refine ⟨fun h => absurd h (by simp; omega), fun _ => ?_⟩
  refine SemC.loopR (σ := Nat) (fun i => St.of [(0, .t (ints w)), (3, .t (.i w.sum)), (6, .own 95), (7, .own 96), (8, .t (.i i))] [(95, .arr 1 ((quoL w.sum (w.take i)).map T.i)), (96, .arr 1 ((remL w.sum (w.take i)).map T.i))]) (fun i => i ≤ w.length) (fun i => w.length - i) 0 (Weak.of _ _ [some 28, some 29] (by simp) (by simp) ?_ ?_) (by omega) fun i hi R hn hr he => ?_
  · simp -implicitDefEqProofs only [ints, rows, Nat.reduceBEq, wkR, Nat.reduceEqDiff, ↓reduceIte, wrR]
  · exact ⟨⟨_, rfl, .refl _⟩, rfl, ⟨_, rfl, .refl _⟩, rfl, trivial⟩
  · simp -implicitDefEqProofs only [go_sem, evR, ints, rows, rat, rats]
    refine ⟨fun h => ⟨by omega, by omega, by omega, fun x hx => ?_⟩, fun h => he _ _ ?_⟩
    · have hxb := hw3 x (List.mem_of_getElem? hx)
      have hq1 := Int.ediv_nonneg (a := 60 * x) (b := w.sum) (by omega) (by omega)
      have hq2 : 60 * x / w.sum ≤ 60 * x := Int.ediv_le_self _ (by omega)
      have hr1 := Int.emod_nonneg (60 * x) (show w.sum ≠ 0 by omega)
      have hr2 := Int.emod_lt_of_pos (60 * x) ht
      have e1 : IntKind.i64.wrap ((IntKind.i64.wrap (60 * x)).tdiv w.sum) = 60 * x / w.sum := by
        rw [wrap64 (n := 60 * x) (by omega) (by omega), Int.tdiv_eq_ediv_of_nonneg (by omega), wrap64 (by omega) (by omega)]
      have e2 : (IntKind.i64.wrap (60 * x)).tmod w.sum = 60 * x % w.sum := by
        rw [wrap64 (n := 60 * x) (by omega) (by omega), Int.tmod_eq_emod_of_nonneg (by omega)]
      simp only [e1]
      refine ⟨by omega, by rw [quoL, List.length_map, List.length_take]; omega, by omega, by omega, by omega, fun x' hx' => ?_⟩
      rw [hx] at hx'; cases hx'
      simp only [e2]
      refine ⟨by omega, by rw [remL, List.length_map, List.length_take]; omega, ?_⟩
      refine hn _ (i + 1) (Weak.of _ _ [some 45, some 55] (by simp) (by simp) ?_ ?_) (by omega) (by omega)
      · simp -implicitDefEqProofs only [ints, rows, Nat.reduceBEq, wkR, Nat.reduceEqDiff, ↓reduceIte, wrR, next64 (by omega : i < w.length) (by omega)]
      · refine ⟨⟨_, rfl, ?_⟩, rfl, ⟨_, rfl, ?_⟩, rfl, trivial⟩
        · rw [quoL_snoc hx, List.map_append]; exact .refl _
        · rw [remL_snoc hx, List.map_append]; exact .refl _
    · simp -implicitDefEqProofs only [go_sem, evR, ints, rows, rat, rats]
      rw [show i = w.length by omega, List.take_length]
      have hst := ham_start (fun x hx => (hw3 x hx).1) ht
      have hqs := quo_small ⟨hw1, hw2, hw3⟩ ht
      refine CallW.pure (spec_l01Sum_ok (quoL w.sum w) hqs) [95] rfl Try.call187 ?_ (by first | trivial | simp [T.noSh, T.noShL, rat]) rfl ?_
      · simp -implicitDefEqProofs only [agR, Nat.reduceLeDiff, Nat.reduceSub, vaR, go_sem, ints, rows, rat, rats, ratsO, rtR, intsO, rowsO]
      simp -implicitDefEqProofs only [go_sem, evR, ints, rows, rat, rats]
      have hsm := hst.sum
      have e60 : IntKind.i64.wrap (60 - (quoL w.sum w).sum) = (((60 - (quoL w.sum w).sum).toNat : Nat) : Int) := by
        have := smallL_sum hqs (quoL w.sum w).length
        rw [List.take_length] at this
        rw [wrap64 (by omega) (by omega)]; omega
      rw [e60]
      refine SemC.loopR (σ := Nat × List Int × List Int) (fun s => St.of [(6, .own 95), (7, .own 96), (9, .t (.i s.1))] [(95, .arr 1 (s.2.1.map T.i)), (96, .arr 1 (s.2.2.map T.i))]) (fun s => HamI w w.sum s.1 s.2.1 s.2.2 ∧ hamGo s.1 s.2.1 s.2.2 = ham1 w ∧ s.1 ≤ 60) (fun s => s.1) ((60 - (quoL w.sum w).sum).toNat, quoL w.sum w, remL w.sum w) (Weak.of _ _ [some 95, some 96] (by simp) (by simp) ?_ ?_) ⟨hst, rfl, by
        have := sum_nonneg' (w := quoL w.sum w) fun y hy => by
          obtain ⟨x, hx, rfl⟩ := List.mem_map.1 hy
          exact Int.ediv_nonneg (by have := hw3 x hx; omega) (by omega)
        simp only []; omega⟩ fun s hI R hn hr he => ?_
      · simp -implicitDefEqProofs only [ints, rows, Nat.reduceBEq, wkR, Nat.reduceEqDiff, ↓reduceIte, wrR]
      · exact ⟨⟨_, rfl, .refl _⟩, rfl, ⟨_, rfl, .refl _⟩, rfl, trivial⟩
      · obtain ⟨m, p, r⟩ := s
        obtain ⟨hH, hgo, hm60⟩ := hI
        (try simp only [] at hH hgo hm60)
        simp -implicitDefEqProofs only [go_sem, evR, ints, rows, rat, rats]
        have hlp := hH.lp
        have hlr := hH.lr
        refine ⟨fun h => ?_, fun h => he _ _ ?_⟩
        · obtain ⟨m', rfl⟩ : ∃ m', m = m' + 1 := ⟨m - 1, by omega⟩
          obtain ⟨hb1, hb2⟩ := hH.best ht
          have hnext := hH.step ht
          refine SemC.loopR (σ := Nat) (fun k => St.of [(6, .own 95), (7, .own 96), (9, .t (.i (m' + 1 : Nat))), (10, .t (.i (maxI r k : Nat))), (11, .t (.i k))] [(95, .arr 1 (p.map T.i)), (96, .arr 1 (r.map T.i))]) (fun k => 1 ≤ k ∧ k ≤ r.length) (fun k => r.length - k) 1 (Weak.of _ _ [some 95, some 96] (by simp) (by simp) ?_ ?_) ⟨by omega, by omega⟩ fun k hk R2 hn2 hr2 he2 => ?_
          · simp -implicitDefEqProofs only [ints, rows, Nat.reduceBEq, wkR, Nat.reduceEqDiff, ↓reduceIte, wrR, maxI_one]
          · exact ⟨⟨_, rfl, .refl _⟩, rfl, ⟨_, rfl, .refl _⟩, rfl, trivial⟩
          · simp -implicitDefEqProofs only [go_sem, evR, ints, rows, rat, rats]
            refine ⟨fun h => ?_, fun h => he2 _ _ ?_⟩
            · have hkl : k < r.length := by omega
              obtain ⟨x, hx⟩ : ∃ x, r[k]? = some x := ⟨_, List.getElem?_eq_getElem hkl⟩
              have hml := maxI_lt r k (by omega) (by omega)
              obtain ⟨y, hy⟩ : ∃ y, r[maxI r k]? = some y := ⟨_, List.getElem?_eq_getElem hml⟩
              have hms : maxI r (k + 1) = if y < x then k else maxI r k := by
                rw [maxI, List.getD_eq_getElem?_getD, List.getD_eq_getElem?_getD, hx, hy]; rfl
              refine ⟨by omega, by omega, by omega, fun x' hx' => ⟨by omega, by omega, by omega, fun y' hy' => ?_⟩⟩
              rw [hx] at hx'; cases hx'
              rw [hy] at hy'; cases hy'
              refine ⟨fun hc => ?_, fun hc => ?_⟩
              · rw [if_pos (by omega)] at hms
                refine hn2 _ (k + 1) (Weak.of _ _ [some 95, some 96] (by simp) (by simp) ?_ ?_) ⟨by omega, by omega⟩ (by omega)
                · simp -implicitDefEqProofs only [ints, rows, Nat.reduceBEq, wkR, Nat.reduceEqDiff, ↓reduceIte, wrR, next64 hkl (by omega), hms]
                · exact ⟨⟨_, rfl, .refl _⟩, rfl, ⟨_, rfl, .refl _⟩, rfl, trivial⟩
              · rw [if_neg (by omega)] at hms
                refine hn2 _ (k + 1) (Weak.of _ _ [some 95, some 96] (by simp) (by simp) ?_ ?_) ⟨by omega, by omega⟩ (by omega)
                · simp -implicitDefEqProofs only [ints, rows, Nat.reduceBEq, wkR, Nat.reduceEqDiff, ↓reduceIte, wrR, next64 hkl (by omega), hms]
                · exact ⟨⟨_, rfl, .refl _⟩, rfl, ⟨_, rfl, .refl _⟩, rfl, trivial⟩
            · simp -implicitDefEqProofs only [go_sem, evR, ints, rows, rat, rats]
              have hk' : k = r.length := by omega
              subst hk'
              have hsm := hH.small ht hb1 (hw3 _ (by rw [List.getD_eq_getElem?_getD, List.getElem?_eq_getElem hb1]; exact List.getElem_mem _))
              refine ⟨by omega, by omega, by omega, fun a ha => ?_⟩
              have hg : p.getD (maxI r r.length) 0 = a := by rw [List.getD_eq_getElem?_getD, ha]; rfl
              rw [hg] at hsm hnext
              rw [wrap64 (n := a + 1) (by omega) (by omega)]
              refine ⟨by omega, by omega, by omega, by omega, by omega, by omega, ?_⟩
              refine hn _ (m', p.set (maxI r r.length) (a + 1), r.set (maxI r r.length) (-1)) (Weak.of _ _ [some 95, some 96] (by simp) (by simp) ?_ ?_) ⟨hnext, by rw [← hgo, hamGo, hg], by simp only []; omega⟩ (by simp only []; omega)
              · have e : IntKind.i64.wrap (((m' + 1 : Nat) : Int) - 1) = (m' : Int) := by rw [wrap64 (by omega) (by omega)]; omega
                simp -implicitDefEqProofs only [ints, rows, Nat.reduceBEq, wkR, Nat.reduceEqDiff, ↓reduceIte, wrR, e]
              · refine ⟨⟨_, rfl, ?_⟩, rfl, ⟨_, rfl, ?_⟩, rfl, trivial⟩
                · rw [List.map_set]; exact .refl _
                · rw [List.map_set]; exact .refl _
        · simp -implicitDefEqProofs only [go_sem, evR, ints, rows, rat, rats]
          have hm0 : m = 0 := by omega
          subst hm0
          rw [← hgo, hamGo]; rfl
end Go.Ab

/- Contracts: parts of weights that are all 0; slices.Index. -/
set_option linter.unusedSimpArgs false
set_option linter.unusedVariables false
namespace Go.Ab
open Go.Proofs

theorem ones_ok {w : List Int} (h : weightsOK w) : weightsOK (onesL w) := ⟨by have := h.1; simpa [onesL] using this, by have := h.2.1; simpa [onesL] using this, fun x hx => by simp [onesL] at hx; omega⟩
theorem ones_snoc {w : List Int} {i : Nat} {x : Int} (h : w[i]? = some x) : onesL (w.take (i + 1)) = onesL (w.take i) ++ [1] := by rw [take_snoc h]; simp [onesL]
theorem spec_l22Parts_ok (w : List Int) (hw : weightsOK w) : Fun Try.prog 172 [] [.t (ints w)] fun o r => o = [] ∧ r = intsO (ham w) := by
  have hs := weights_small hw
  have hs0 := sum_nonneg' (w := w) fun x hx => (hw.2.2 x hx).1
  by_cases h0 : w.sum = 0
  · rw [ham, if_pos h0]
    have ho := spec_l22Parts1_ok (onesL w) (ones_ok hw) (by rw [ones_sum]; have := hw.1; omega)
    obtain ⟨hw1, hw2, hw3⟩ := hw
    refine fun_spec_l22Parts (by simp) ?_
    simp -implicitDefEqProofs only [go_sem, evR, ints, rows, rat, rats, c_spec_l22Parts]
    refine CallW.pure (spec_l01Sum_ok w hs) [] rfl Try.call187 ?_ (by first | trivial | simp [T.noSh, T.noShL, rat]) rfl ?_
    · simp -implicitDefEqProofs only [agR, Nat.reduceLeDiff, Nat.reduceSub, vaR, go_sem, ints, rows, rat, rats, ratsO, rtR, intsO, rowsO]
    simp -implicitDefEqProofs only [go_sem, evR, ints, rows, rat, rats]
    refine ⟨fun _ => ?_, fun h => absurd h (by simp [h0])⟩
    refine SemC.loopR (σ := Nat) (fun i => St.of [(0, .t (ints w)), (4, .own 95), (5, .t (.i i))] [(95, .arr 1 ((onesL (w.take i)).map T.i))]) (fun i => i ≤ w.length) (fun i => w.length - i) 0 (Weak.of _ _ [some 16] (by simp) (by simp) ?_ ?_) (by omega) fun i hi R hn hr he => ?_
    · simp -implicitDefEqProofs only [ints, rows, Nat.reduceBEq, wkR, Nat.reduceEqDiff, ↓reduceIte, wrR]
    · exact ⟨⟨_, rfl, .refl _⟩, rfl, trivial⟩
    · simp -implicitDefEqProofs only [go_sem, evR, ints, rows, rat, rats]
      refine ⟨fun h => ?_, fun h => he _ _ ?_⟩
      · obtain ⟨x, hx⟩ : ∃ x, w[i]? = some x := ⟨_, List.getElem?_eq_getElem (by omega)⟩
        refine ⟨by rw [onesL, List.length_map, List.length_take]; omega, hn _ (i + 1) (Weak.of _ _ [some 25] (by simp) (by simp) ?_ ?_) (by omega) (by omega)⟩
        · simp -implicitDefEqProofs only [ints, rows, Nat.reduceBEq, wkR, Nat.reduceEqDiff, ↓reduceIte, wrR, next64 (by omega : i < w.length) (by omega)]
        · refine ⟨⟨_, rfl, ?_⟩, rfl, trivial⟩
          rw [ones_snoc hx, List.map_append]; exact .refl _
      · simp -implicitDefEqProofs only [go_sem, evR, ints, rows, rat, rats]
        rw [show i = w.length by omega, List.take_length]
        refine CallW.res ho [95] rfl Try.call172 ?_ (.inr (intsO_noSh _)) ?_
        · simp -implicitDefEqProofs only [agR, Nat.reduceLeDiff, Nat.reduceSub, vaR, go_sem, ints, rows, rat, rats, ratsO, rtR, intsO, rowsO]
        simp -implicitDefEqProofs only [clR, Nat.reduceLeDiff, go_sem, evR, rat]
  · rw [ham, if_neg h0]
    exact spec_l22Parts1_ok w hw (by omega)
theorem maxI_val (r : List Int) : ∀ k, 1 ≤ k → k ≤ r.length → maxL (r.take k) = r.getD (maxI r k) 0
  | 0, h, _ => by omega
  | 1, _, h => by
    rw [maxI_one]
    cases r with
    | nil => simp at h
    | cons a r => simp [maxL]
  | k + 2, _, h => by
    have ih := maxI_val r (k + 1) (by omega) (by omega)
    obtain ⟨x, hx⟩ : ∃ x, r[k + 1]? = some x := ⟨_, List.getElem?_eq_getElem (by omega)⟩
    have hg : r.getD (k + 1) 0 = x := by rw [List.getD_eq_getElem?_getD, hx]; rfl
    rw [take_snoc hx, maxL_snoc (List.ne_nil_of_length_pos (by rw [List.length_take]; omega)), ih]
    show _ = r.getD (if r.getD (maxI r (k + 1)) 0 < r.getD (k + 1) 0 then k + 1 else maxI r (k + 1)) 0
    rw [hg]
    split
    · rw [hg]; omega
    · omega
theorem slices_Index_ok (r : List Int) (hr : r.length ≤ 1000000) (h0 : 0 < r.length) : Pure Try.prog 117 [ints r, .i (maxL r)] (.i (maxI r r.length : Nat)) := by
  refine fun_slices_Index___int64_int64_ (by simp) ?_
  simp -implicitDefEqProofs only [go_sem, evR, ints, rows, rat, rats, c_slices_Index___int64_int64_]
  refine SemC.loopR (σ := Nat) (fun i => St.of [(0, .t (ints r)), (1, .t (.i (maxL r))), (7, .t (.i r.length)), (8, .t (.i i))] []) (fun i => i ≤ maxI r r.length) (fun i => r.length - i) 0 (Weak.of _ [] [] (by simp) (by simp) ?_ trivial) (by omega) fun i hi R hn hr' he => ?_
  · simp -implicitDefEqProofs only [ints, rows, Nat.reduceBEq, wkR, Nat.reduceEqDiff, ↓reduceIte, wrR]
  · simp -implicitDefEqProofs only [go_sem, evR, ints, rows, rat, rats]
    have hv := maxI_val r r.length (by omega) (by omega)
    rw [List.take_length] at hv
    have hml := maxI_lt r r.length (Nat.le_refl _) h0
    refine ⟨fun h => ⟨by omega, by omega, by omega, fun x hx => ⟨fun hc => hr' _ ?_, fun hc => ?_⟩⟩, fun h => by omega⟩
    · have hg : r.getD i 0 = x := by rw [List.getD_eq_getElem?_getD, hx]; rfl
      have e : i = maxI r r.length := by
        by_cases hlt : i < maxI r r.length
        · have := maxI_first r r.length i hlt
          have hc : maxL r = x := by simpa using hc
          omega
        · omega
      simp -implicitDefEqProofs only [go_sem, evR, ints, rows, rat, rats]
      rw [← e]
    · have hg : r.getD i 0 = x := by rw [List.getD_eq_getElem?_getD, hx]; rfl
      have hne : i ≠ maxI r r.length := by
        intro e
        rw [← e, hg] at hv
        simp [hv] at hc
      refine hn _ (i + 1) (Weak.of _ [] [] (by simp) (by simp) ?_ trivial) (by omega) (by omega)
      simp -implicitDefEqProofs only [ints, rows, Nat.reduceBEq, wkR, Nat.reduceEqDiff, ↓reduceIte, wrR, next64 (by omega : i < r.length) (by omega)]
end Go.Ab

/- Contracts: parts, the program's. -/
set_option linter.unusedSimpArgs false
set_option linter.unusedVariables false
namespace Go.Ab
open Go.Proofs

def useL (w : List Int) : List Int := if w.sum = 0 then onesL w else w
theorem ham_use (w : List Int) : ham w = ham1 (useL w) := by unfold ham useL; split <;> rfl
theorem use_length (w : List Int) : (useL w).length = w.length := by unfold useL; split <;> simp [onesL]
theorem use_pos {w : List Int} (h : weightsOK w) : 0 < (useL w).sum := by
  have hs0 := sum_nonneg' (w := w) fun x hx => (h.2.2 x hx).1
  have := h.1
  unfold useL; split
  · rw [ones_sum]; omega
  · omega
theorem use_ok {w : List Int} (h : weightsOK w) : weightsOK (useL w) := by
  unfold useL; split
  · exact ones_ok h
  · exact h
theorem filled_get {α : Type} {l : List α} {f : α → T} {z : T} {i : Nat} {x : α} (h : l[i]? = some x) : (filled l f z (i + 1))[i]? = some (f x) := by
  obtain ⟨hi, rfl⟩ := List.getElem?_eq_some_iff.1 h
  simp only [filled]
  rw [List.getElem?_append_left (by rw [List.length_map, List.length_take]; omega), List.getElem?_map, List.getElem?_take, if_pos (by omega), List.getElem?_eq_getElem hi]
  rfl
theorem impl_partsOf_ok (w : List Int) (hw : weightsOK w) : Fun Try.prog 193 [] [.t (ints w)] fun o r => o = [] ∧ r = intsO (ham w) := by
  have hs := weights_small hw
  have hu := use_ok hw
  have ht := use_pos hw
  have hul := use_length w
  rw [ham_use]
  have hsum0 := sum_nonneg' (w := w) fun x hx => (hw.2.2 x hx).1
  have hsum : w.sum ≤ 1000000000000000 := by have := smallL_sum hs w.length; rw [List.take_length] at this; omega
  have husum : (useL w).sum ≤ 1000000000000000 := by have := smallL_sum (weights_small hu) (useL w).length; rw [List.take_length] at this; omega
  have hql : (quoL (useL w).sum (useL w)).length = w.length := by simp [quoL, hul]
  have hrl : (remL (useL w).sum (useL w)).length = w.length := by simp [remL, hul]
  obtain ⟨hw1, hw2, hw3⟩ := hw
  refine fun_impl_partsOf (by simp) ?_
  simp -implicitDefEqProofs only [go_sem, evR, ints, rows, rat, rats, c_impl_partsOf]
  refine CallW.pure (impl_sumOf_ok w hs) [] rfl Try.call200 ?_ (by first | trivial | simp [T.noSh, T.noShL, rat]) rfl ?_
  · simp -implicitDefEqProofs only [agR, Nat.reduceLeDiff, Nat.reduceSub, vaR, go_sem, ints, rows, rat, rats, ratsO, rtR, intsO, rowsO]
  simp -implicitDefEqProofs only [go_sem, evR, ints, rows, rat, rats]
  refine ⟨by omega, by omega, by omega, by omega, ?_⟩
  refine SemC.loopR (σ := Nat) (fun i => St.of [(0, .t (ints w)), (3, .t (.i w.sum)), (4, .own 14), (5, .own 17), (6, .t (.i (60 - ((quoL (useL w).sum (useL w)).take i).sum))), (18, .t (ints w)), (19, .t (.i w.length)), (20, .t (.i i))] [(14, .arr 1 (filled (quoL (useL w).sum (useL w)) T.i (T.i 0) i)), (17, .arr 1 (filled (remL (useL w).sum (useL w)) T.i (T.i 0) i))]) (fun i => i ≤ w.length) (fun i => w.length - i) 0 (Weak.of _ _ [some 14, some 17] (by simp) (by simp) ?_ ?_) (by omega) fun i hi R hn hr he => ?_
  · simp -implicitDefEqProofs only [ints, rows, Nat.reduceBEq, wkR, Nat.reduceEqDiff, ↓reduceIte, wrR, List.take_zero, List.sum_nil, Int.sub_zero]
  · refine ⟨⟨_, rfl, ?_⟩, rfl, ⟨_, rfl, ?_⟩, rfl, trivial⟩
    · rw [filled_zero, hql, made_one]; exact .refl _
    · rw [filled_zero, hrl, made_one]; exact .refl _
  · simp -implicitDefEqProofs only [go_sem, evR, ints, rows, rat, rats]
    refine ⟨fun h => ⟨by omega, by omega, by omega, fun x hx => ?_⟩, fun h => he _ _ ?_⟩
    · have hxb := hw3 x (List.mem_of_getElem? hx)
      obtain ⟨ux, hux⟩ : ∃ y, (useL w)[i]? = some y := ⟨_, List.getElem?_eq_getElem (by omega)⟩
      have hq : (quoL (useL w).sum (useL w))[i]? = some (60 * ux / (useL w).sum) := by rw [quoL, List.getElem?_map, hux]; rfl
      have hr' : (remL (useL w).sum (useL w))[i]? = some (60 * ux % (useL w).sum) := by rw [remL, List.getElem?_map, hux]; rfl
      have hqs := quo_small hu ht
      have hb1 := smallL_sum hqs i
      have hb2 := smallL_sum hqs (i + 1)
      have hss := sum_snoc ((quoL (useL w).sum (useL w)).take i) (60 * ux / (useL w).sum)
      rw [← take_snoc hq] at hss
      have hls : IntKind.i64.wrap (60 - ((quoL (useL w).sum (useL w)).take i).sum - 60 * ux / (useL w).sum) = 60 - ((quoL (useL w).sum (useL w)).take (i + 1)).sum := by
        rw [wrap64 (by omega) (by omega), hss]; omega
      have hfq := filled_set (f := T.i) (z := T.i 0) hq
      have hfr := filled_set (f := T.i) (z := T.i 0) hr'
      have hfl1 := filled_length (quoL (useL w).sum (useL w)) T.i (T.i 0) i (by omega)
      have hfl2 := filled_length (remL (useL w).sum (useL w)) T.i (T.i 0) i (by omega)
      have hget := filled_get (f := T.i) (z := T.i 0) hq
      have hcase : (w.sum = 0 ∧ ux = 1 ∧ (useL w).sum = w.length) ∨ (w.sum ≠ 0 ∧ ux = x ∧ (useL w).sum = w.sum) := by
        unfold useL at hux ⊢
        split at hux
        · rename_i h0
          rw [if_pos h0, ones_sum]
          rw [onesL, List.getElem?_map, hx] at hux
          exact .inl ⟨h0, by simpa using hux.symm, rfl⟩
        · rename_i h0
          rw [if_neg h0]
          rw [hx] at hux
          exact .inr ⟨h0, by simpa using hux.symm, rfl⟩
      refine ⟨fun h0 => ?_, fun h0 => ?_⟩
      · have h0 : w.sum = 0 := by simpa using h0
        obtain ⟨_, hu1, hu2⟩ := hcase.resolve_right (fun h => h.1 h0)
        have e1 : IntKind.i64.wrap (Int.tdiv 60 (w.length : Int)) = 60 * ux / (useL w).sum := by
          have := Int.ediv_nonneg (a := 60) (b := (w.length : Int)) (by omega) (by omega)
          have := Int.ediv_le_self (a := 60) (w.length : Int) (by omega)
          rw [Int.tdiv_eq_ediv_of_nonneg (by omega), wrap64 (by omega) (by omega), hu1, hu2]; rfl
        have e2 : Int.tmod 60 (w.length : Int) = 60 * ux % (useL w).sum := by
          rw [Int.tmod_eq_emod_of_nonneg (by omega), hu1, hu2]; rfl
        simp only [e1, e2, hfq, hfr]
        refine ⟨by omega, by omega, by omega, by omega, by omega, by omega, by omega, by omega, by omega, by omega, by omega, fun c hc => ?_⟩
        rw [hget] at hc; cases hc
        refine ⟨rfl, rfl, ?_⟩
        simp only [hls]
        refine hn _ (i + 1) (Weak.of _ _ [some 14, some 17] (by simp) (by simp) ?_ ?_) (by omega) (by omega)
        · simp -implicitDefEqProofs only [ints, rows, Nat.reduceBEq, wkR, Nat.reduceEqDiff, ↓reduceIte, wrR, next64 (by omega : i < w.length) (by omega)]
        · exact ⟨⟨_, rfl, .refl _⟩, rfl, ⟨_, rfl, .refl _⟩, rfl, trivial⟩
      · have h0 : w.sum ≠ 0 := by simpa using h0
        obtain ⟨_, hu1, hu2⟩ := hcase.resolve_left (fun h => h0 h.1)
        have hq1 := Int.ediv_nonneg (a := 60 * x) (b := w.sum) (by omega) (by omega)
        have hq2 : 60 * x / w.sum ≤ 60 * x := Int.ediv_le_self _ (by omega)
        have e1 : IntKind.i64.wrap ((IntKind.i64.wrap (60 * x)).tdiv w.sum) = 60 * ux / (useL w).sum := by
          rw [wrap64 (n := 60 * x) (by omega) (by omega), Int.tdiv_eq_ediv_of_nonneg (by omega), wrap64 (by omega) (by omega), hu1, hu2]
        have e2 : (IntKind.i64.wrap (60 * x)).tmod w.sum = 60 * ux % (useL w).sum := by
          rw [wrap64 (n := 60 * x) (by omega) (by omega), Int.tmod_eq_emod_of_nonneg (by omega), hu1, hu2]
        simp only [e1, e2, hfq, hfr]
        refine ⟨by omega, by omega, by omega, by omega, by omega, by omega, by omega, by omega, by omega, by omega, by omega, fun c hc => ?_⟩
        rw [hget] at hc; cases hc
        refine ⟨rfl, rfl, ?_⟩
        simp only [hls]
        refine hn _ (i + 1) (Weak.of _ _ [some 14, some 17] (by simp) (by simp) ?_ ?_) (by omega) (by omega)
        · simp -implicitDefEqProofs only [ints, rows, Nat.reduceBEq, wkR, Nat.reduceEqDiff, ↓reduceIte, wrR, next64 (by omega : i < w.length) (by omega)]
        · exact ⟨⟨_, rfl, .refl _⟩, rfl, ⟨_, rfl, .refl _⟩, rfl, trivial⟩
    · simp -implicitDefEqProofs only [go_sem, evR, ints, rows, rat, rats]
      have f1 : filled (quoL (useL w).sum (useL w)) T.i (T.i 0) i = (quoL (useL w).sum (useL w)).map T.i := by rw [show i = (quoL (useL w).sum (useL w)).length by omega, filled_all]
      have f2 : filled (remL (useL w).sum (useL w)) T.i (T.i 0) i = (remL (useL w).sum (useL w)).map T.i := by rw [show i = (remL (useL w).sum (useL w)).length by omega, filled_all]
      have f3 : (quoL (useL w).sum (useL w)).take i = quoL (useL w).sum (useL w) := List.take_of_length_le (by omega)
      rw [f1, f2, f3]
      have hst := ham_start (fun x hx => (hu.2.2 x hx).1) ht
      have hsm := hst.sum
      have hqn := sum_nonneg' (w := quoL (useL w).sum (useL w)) fun y hy => by
        obtain ⟨x, hx, rfl⟩ := List.mem_map.1 hy
        exact Int.ediv_nonneg (by have := hu.2.2 x hx; omega) (by omega)
      refine SemC.loopR (σ := Nat × List Int × List Int) (fun s => St.of [(4, .own 14), (5, .own 17), (6, .t (.i s.1))] [(14, .arr 1 (s.2.1.map T.i)), (17, .arr 1 (s.2.2.map T.i))]) (fun s => HamI (useL w) (useL w).sum s.1 s.2.1 s.2.2 ∧ hamGo s.1 s.2.1 s.2.2 = ham1 (useL w) ∧ s.1 ≤ 60) (fun s => s.1) ((60 - (quoL (useL w).sum (useL w)).sum).toNat, quoL (useL w).sum (useL w), remL (useL w).sum (useL w)) (Weak.of _ _ [some 14, some 17] (by simp) (by simp) ?_ ?_) ⟨hst, rfl, by simp only []; omega⟩ fun s hI R hn hr he => ?_
      · have e60 : 60 - (quoL (useL w).sum (useL w)).sum = (((60 - (quoL (useL w).sum (useL w)).sum).toNat : Nat) : Int) := by omega
        simp -implicitDefEqProofs only [ints, rows, Nat.reduceBEq, wkR, Nat.reduceEqDiff, ↓reduceIte, wrR, ← e60]
      · exact ⟨⟨_, rfl, .refl _⟩, rfl, ⟨_, rfl, .refl _⟩, rfl, trivial⟩
      · obtain ⟨m, p, r⟩ := s
        obtain ⟨hH, hgo, hm60⟩ := hI
        (try simp only [] at hH hgo hm60)
        have hlp := hH.lp
        have hlr := hH.lr
        simp -implicitDefEqProofs only [go_sem, evR, ints, rows, rat, rats]
        refine ⟨fun h => ?_, fun h => he _ _ ?_⟩
        · obtain ⟨m', rfl⟩ : ∃ m', m = m' + 1 := ⟨m - 1, by omega⟩
          obtain ⟨hb1, hb2⟩ := hH.best ht
          have hnext := hH.step ht
          refine CallW.pure (slices_Max_ok r (List.ne_nil_of_length_pos (by omega)) (by omega)) [17] rfl Try.call106 ?_ (by first | trivial | simp [T.noSh, T.noShL, rat]) rfl ?_
          · simp -implicitDefEqProofs only [agR, Nat.reduceLeDiff, Nat.reduceSub, vaR, go_sem, ints, rows, rat, rats, ratsO, rtR, intsO, rowsO]
          simp -implicitDefEqProofs only [go_sem, evR, ints, rows, rat, rats]
          refine CallW.pure (slices_Index_ok r (by omega) (by omega)) [17] rfl Try.call117 ?_ (by first | trivial | simp [T.noSh, T.noShL, rat]) rfl ?_
          · simp -implicitDefEqProofs only [agR, Nat.reduceLeDiff, Nat.reduceSub, vaR, go_sem, ints, rows, rat, rats, ratsO, rtR, intsO, rowsO]
          simp -implicitDefEqProofs only [go_sem, evR, ints, rows, rat, rats]
          have hsm := hH.small ht hb1 (hu.2.2 _ (by rw [List.getD_eq_getElem?_getD, List.getElem?_eq_getElem hb1]; exact List.getElem_mem _))
          refine ⟨by omega, by omega, by omega, fun a ha => ?_⟩
          have hg : p.getD (maxI r r.length) 0 = a := by rw [List.getD_eq_getElem?_getD, ha]; rfl
          rw [hg] at hsm hnext
          rw [wrap64 (n := a + 1) (by omega) (by omega)]
          refine ⟨by omega, by omega, by omega, by omega, by omega, by omega, ?_⟩
          refine hn _ (m', p.set (maxI r r.length) (a + 1), r.set (maxI r r.length) (-1)) (Weak.of _ _ [some 14, some 17] (by simp) (by simp) ?_ ?_) ⟨hnext, by rw [← hgo, hamGo, hg], by simp only []; omega⟩ (by simp only []; omega)
          · have e : IntKind.i64.wrap (((m' + 1 : Nat) : Int) - 1) = (m' : Int) := by rw [wrap64 (by omega) (by omega)]; omega
            simp -implicitDefEqProofs only [ints, rows, Nat.reduceBEq, wkR, Nat.reduceEqDiff, ↓reduceIte, wrR, e]
          · refine ⟨⟨_, rfl, ?_⟩, rfl, ⟨_, rfl, ?_⟩, rfl, trivial⟩
            · rw [List.map_set]; exact .refl _
            · rw [List.map_set]; exact .refl _
        · simp -implicitDefEqProofs only [go_sem, evR, ints, rows, rat, rats]
          have hm0 : m = 0 := by omega
          subst hm0
          rw [← hgo, hamGo]; rfl
end Go.Ab

/- Contracts: numbers of games. -/
set_option linter.unusedSimpArgs false
set_option linter.unusedVariables false
namespace Go.Ab
open Go.Proofs

def evO (g : Gm) (s t : List (List Int)) : T := .box [nodes g.nd, rows g.w, rows g.v, intsO (ownL g 0), intsO (ownL g 1), rows s, rows t, intsO (parN g.nd g.nd.length)]
def evL (g : Gm) (s t : List (List Int)) : List T := [nodes g.nd, rows g.w, rows g.v, ints (ownL g 0), ints (ownL g 1), rows s, rows t, ints (parN g.nd g.nd.length)]
def evB (g : Gm) (s t : List (List Int)) (c3 c4 : T) (par : List Int) : T := .box [nodes g.nd, rows g.w, rows g.v, c3, c4, rows s, rows t, intsO par]
def evC (g : Gm) (q : Int) (b : Bool) : T := if b = true then intsO (ownL g q) else .v (.slice none 0 0)
theorem parN_step {l : List Nd} {i : Nat} {x : Nd} (hx : l[i]? = some x) : parN l (i + 1) = x.ch.foldl (fun P (c : Int) => P.set c.toNat (i : Int)) (parN l i) := by
  rw [parN, List.getD_eq_getElem?_getD, hx]; rfl
def parK (P ch : List Int) (i k : Nat) : List Int := (ch.take k).foldl (fun P (c : Int) => P.set c.toNat (i : Int)) P
theorem parK_succ {P ch : List Int} {i k m : Nat} (h : ch[k]? = some (m : Int)) : parK P ch i (k + 1) = (parK P ch i k).set m (i : Int) := by
  simp only [parK, take_snoc h, List.foldl_append, List.foldl_cons, List.foldl_nil, Int.toNat_natCast]
theorem parK_length (P ch : List Int) (i k : Nat) : (parK P ch i k).length = P.length := by rw [parK, foldl_set_length]
section
attribute [-go_sem] load1C load1V fldC lenC idxC loadNV nilCheckW
set_option maxRecDepth 20000 in
theorem impl_newEvaluator_ok (g : Gm) (s t : Int × List (List Int)) (hg : isGameB g = true) : Fun Try.prog 179 [] [.t (gameT g), .t (stratT s), .t (stratT t)] fun o r => o = [] ∧ r = evO g s.2 t.2 := by
  obtain ⟨p1, p2, p3, p4, p5⟩ := isGameB_parts hg
  obtain ⟨t1, t2, t3, t4⟩ := isTreeB_spec p1
  have hfl : ∀ q j, (fillN (idxs g.nd q g.nd.length) g.w.length g.nd.length j).length = g.nd.length := fun q j => fillN_length _ _ _ _
  have hfs : ∀ q j (n : Nat), (idxs g.nd q g.nd.length)[j]? = some (n : Int) → fillN (idxs g.nd q g.nd.length) g.w.length g.nd.length (j + 1) = (fillN (idxs g.nd q g.nd.length) g.w.length g.nd.length j).set n ((j * g.w.length : Nat) : Int) := fun q j n h => by
    rw [fillN, List.getD_eq_getElem?_getD, h]; rfl
  have hmul : ∀ n : Nat, n ≤ g.nd.length → n * g.w.length ≤ 60 * 6 := fun n hn => Nat.mul_le_mul (by omega) p2.2
  have hoL : ∀ q, ownL g q = fillN (idxs g.nd q g.nd.length) g.w.length g.nd.length (idxs g.nd q g.nd.length).length := fun q => rfl
  have w1 : IntKind.i64.wrap 1 = 1 := rfl
  have w2' : IntKind.i64.wrap (1 + 1) = 2 := rfl
  refine fun_impl_newEvaluator_h (by simp) ?_
  simp -implicitDefEqProofs only [go_sem, evR, ints, rows, rat, rats, c_impl_newEvaluator_h, gameT, stratT, nodes, made_one]
  refine ⟨by omega, by omega, ?_⟩
  refine SemC.loopR (σ := Nat) (fun q => St.of [(3, .own 3), (7, .own 27), (28, .t (.i q))] [(3, .box [nodes g.nd, rows g.w, rows g.v]), (27, evB g s.2 t.2 (evC g 0 (decide (0 < q))) (evC g 1 (decide (1 < q))) (List.replicate g.nd.length 0))]) (fun q => q ≤ 2) (fun q => 2 - q) 0 (Weak.of _ _ [some 3, some 27] (by simp) (by simp) ?_ ?_) (by omega) fun q hq R hn hr he => ?_
  · simp -implicitDefEqProofs only [ints, rows, Nat.reduceBEq, wkR, Nat.reduceEqDiff, ↓reduceIte, wrR, nodes]
  · refine ⟨⟨_, rfl, .refl _⟩, rfl, ⟨_, rfl, ?_⟩, rfl, trivial⟩
    rw [evB, intsO, List.map_replicate]; exact .refl _
  · match q, hq with
    | 0, _ =>
      simp -implicitDefEqProofs only [go_sem, evR, ints, rows, rat, rats, evB, evC, nodes, intsO, decide_eq_true (show (0 : Int) < 2 by omega), Nat.lt_irrefl, decide_false, Bool.false_eq_true, Int.natCast_zero, Int.cast_ofNat_Int, opR, Nat.reduceBEq]
      refine ⟨by omega, by omega, ?_⟩
      refine CallW.res (impl_nodesOf_t g.nd 0 (by omega)) [] rfl Try.call181 ?_ (.inl rfl) ?_
      · simp -implicitDefEqProofs only [agR, Nat.reduceLeDiff, Nat.reduceSub, vaR, go_sem, ints, rows, rat, rats, ratsO, rtR, intsO, rowsO]
      simp -implicitDefEqProofs only [clR, Nat.reduceLeDiff, go_sem, evR, rat, intsO]
      have hil := idxs_length g.nd 0 g.nd.length
      refine SemC.loopR (σ := Nat) (fun j => St.of [(3, .own 3), (7, .own 27), (8, .t (.i 0)), (28, .t (.i 0)), (44, .own 44), (45, .t (.i (idxs g.nd 0 g.nd.length).length)), (46, .t (.i j))] [(3, .box [nodes g.nd, rows g.w, rows g.v]), (27, evB g s.2 t.2 (intsO (fillN (idxs g.nd 0 g.nd.length) g.w.length g.nd.length j)) (.v (.slice none 0 0)) (List.replicate g.nd.length 0)), (44, intsO (idxs g.nd 0 g.nd.length))]) (fun j => j ≤ (idxs g.nd 0 g.nd.length).length) (fun j => (idxs g.nd 0 g.nd.length).length - j) 0 (Weak.of _ _ [some 3, some 27, some 44] (by simp) (by simp) ?_ ?_) (by omega) fun j hj R2 hn2 hr2 he2 => ?_
      · simp -implicitDefEqProofs only [ints, rows, Nat.reduceBEq, wkR, Nat.reduceEqDiff, ↓reduceIte, wrR, nodes]
      · refine ⟨⟨_, rfl, .refl _⟩, rfl, ⟨_, rfl, ?_⟩, rfl, ⟨_, rfl, .refl _⟩, rfl, trivial⟩
        simp only [evB, fillN, made_one, intsO, List.map_replicate]; exact .refl _
      · rcases Nat.lt_or_ge j (idxs g.nd 0 g.nd.length).length with h9 | h9
        · obtain ⟨y, hy⟩ : ∃ y, (idxs g.nd 0 g.nd.length)[j]? = some y := ⟨_, List.getElem?_eq_getElem h9⟩
          obtain ⟨n, rfl, hn1⟩ := idxs_lt' hy
          have hjm := hmul j (by omega)
          simp -implicitDefEqProofs only [go_sem, evR, ints, rows, rat, rats, evB, nodes, hy, intsO, decide_eq_true (show (j : Int) < ((idxs g.nd 0 g.nd.length).length : Int) by omega), hfl]
          refine ⟨by omega, by omega, by omega, ?_⟩
          refine ⟨_, Weak.open 27 3 500 rfl rfl rfl (by decide) rfl, ?_⟩
          simp -implicitDefEqProofs only [go_sem, evR, ints, rows, rat, rats, opR, Nat.reduceBEq, hfl]
          refine ⟨by omega, by omega, by omega, by omega, hn2 _ (j + 1) (Weak.trans (Weak.close1 27 3 500 rfl rfl (by decide) rfl) (Weak.of _ _ [some 3, some 27, some 44] (by simp) (by simp) ?_ ?_)) (by omega) (by omega)⟩
          · simp -implicitDefEqProofs only [ints, rows, Nat.reduceBEq, wkR, Nat.reduceEqDiff, ↓reduceIte, wrR, nodes, next64 h9 (by omega)]
          · refine ⟨⟨_, rfl, .refl _⟩, rfl, ⟨_, rfl, ?_⟩, rfl, ⟨_, rfl, .refl _⟩, rfl, trivial⟩
            rw [hfs _ _ _ hy]; simp only [evB, intsO, List.map_set]; rw [wrap64 (n := (j : Int) * (g.w.length : Int)) (by omega) (by omega), ← Int.natCast_mul]; exact .refl _
        · have hjl : j = (idxs g.nd 0 g.nd.length).length := by omega
          subst hjl
          simp -implicitDefEqProofs only [go_sem, evR, ints, rows, rat, rats, evB, nodes, intsO, decide_eq_false (show ¬ ((idxs g.nd 0 g.nd.length).length : Int) < ((idxs g.nd 0 g.nd.length).length : Int) by omega)]
          refine he2 _ _ ?_
          simp -implicitDefEqProofs only [go_sem, evR, ints, rows, rat, rats]
          rw [← hoL]
          refine hn _ 1 (Weak.of _ _ [some 3, some 27] (by simp) (by simp) ?_ ?_) (by omega) (by omega)
          · simp -implicitDefEqProofs only [ints, rows, Nat.reduceBEq, wkR, Nat.reduceEqDiff, ↓reduceIte, wrR, nodes, Int.zero_add, w1]
          · exact ⟨⟨_, rfl, .refl _⟩, rfl, ⟨_, rfl, .refl _⟩, rfl, trivial⟩
    | 1, _ =>
      simp -implicitDefEqProofs only [go_sem, evR, ints, rows, rat, rats, evB, evC, nodes, intsO, decide_eq_true (show (1 : Int) < 2 by omega), Nat.lt_irrefl, Nat.zero_lt_one, decide_true, decide_false, Bool.false_eq_true, Int.natCast_zero, Int.cast_ofNat_Int, opR, Nat.reduceBEq]
      refine ⟨by omega, by omega, ?_⟩
      refine CallW.res (impl_nodesOf_t g.nd 1 (by omega)) [] rfl Try.call181 ?_ (.inl rfl) ?_
      · simp -implicitDefEqProofs only [agR, Nat.reduceLeDiff, Nat.reduceSub, vaR, go_sem, ints, rows, rat, rats, ratsO, rtR, intsO, rowsO]
      simp -implicitDefEqProofs only [clR, Nat.reduceLeDiff, go_sem, evR, rat, intsO]
      have hil := idxs_length g.nd 1 g.nd.length
      refine SemC.loopR (σ := Nat) (fun j => St.of [(3, .own 3), (7, .own 27), (8, .t (.i 1)), (28, .t (.i 1)), (44, .own 44), (45, .t (.i (idxs g.nd 1 g.nd.length).length)), (46, .t (.i j))] [(3, .box [nodes g.nd, rows g.w, rows g.v]), (27, evB g s.2 t.2 (intsO (ownL g 0)) (intsO (fillN (idxs g.nd 1 g.nd.length) g.w.length g.nd.length j)) (List.replicate g.nd.length 0)), (44, intsO (idxs g.nd 1 g.nd.length))]) (fun j => j ≤ (idxs g.nd 1 g.nd.length).length) (fun j => (idxs g.nd 1 g.nd.length).length - j) 0 (Weak.of _ _ [some 3, some 27, some 44] (by simp) (by simp) ?_ ?_) (by omega) fun j hj R2 hn2 hr2 he2 => ?_
      · simp -implicitDefEqProofs only [ints, rows, Nat.reduceBEq, wkR, Nat.reduceEqDiff, ↓reduceIte, wrR, nodes]
      · refine ⟨⟨_, rfl, .refl _⟩, rfl, ⟨_, rfl, ?_⟩, rfl, ⟨_, rfl, .refl _⟩, rfl, trivial⟩
        simp only [evB, fillN, made_one, intsO, List.map_replicate]; exact .refl _
      · rcases Nat.lt_or_ge j (idxs g.nd 1 g.nd.length).length with h9 | h9
        · obtain ⟨y, hy⟩ : ∃ y, (idxs g.nd 1 g.nd.length)[j]? = some y := ⟨_, List.getElem?_eq_getElem h9⟩
          obtain ⟨n, rfl, hn1⟩ := idxs_lt' hy
          have hjm := hmul j (by omega)
          simp -implicitDefEqProofs only [go_sem, evR, ints, rows, rat, rats, evB, nodes, hy, intsO, decide_eq_true (show (j : Int) < ((idxs g.nd 1 g.nd.length).length : Int) by omega), hfl]
          refine ⟨by omega, by omega, by omega, ?_⟩
          refine ⟨_, Weak.open 27 4 500 rfl rfl rfl (by decide) rfl, ?_⟩
          simp -implicitDefEqProofs only [go_sem, evR, ints, rows, rat, rats, opR, Nat.reduceBEq, hfl]
          refine ⟨by omega, by omega, by omega, by omega, hn2 _ (j + 1) (Weak.trans (Weak.close1 27 4 500 rfl rfl (by decide) rfl) (Weak.of _ _ [some 3, some 27, some 44] (by simp) (by simp) ?_ ?_)) (by omega) (by omega)⟩
          · simp -implicitDefEqProofs only [ints, rows, Nat.reduceBEq, wkR, Nat.reduceEqDiff, ↓reduceIte, wrR, nodes, next64 h9 (by omega)]
          · refine ⟨⟨_, rfl, .refl _⟩, rfl, ⟨_, rfl, ?_⟩, rfl, ⟨_, rfl, .refl _⟩, rfl, trivial⟩
            rw [hfs _ _ _ hy]; simp only [evB, intsO, List.map_set]; rw [wrap64 (n := (j : Int) * (g.w.length : Int)) (by omega) (by omega), ← Int.natCast_mul]; exact .refl _
        · have hjl : j = (idxs g.nd 1 g.nd.length).length := by omega
          subst hjl
          simp -implicitDefEqProofs only [go_sem, evR, ints, rows, rat, rats, evB, nodes, intsO, decide_eq_false (show ¬ ((idxs g.nd 1 g.nd.length).length : Int) < ((idxs g.nd 1 g.nd.length).length : Int) by omega)]
          refine he2 _ _ ?_
          simp -implicitDefEqProofs only [go_sem, evR, ints, rows, rat, rats]
          rw [← hoL]
          refine hn _ 2 (Weak.of _ _ [some 3, some 27] (by simp) (by simp) ?_ ?_) (by omega) (by omega)
          · simp -implicitDefEqProofs only [ints, rows, Nat.reduceBEq, wkR, Nat.reduceEqDiff, ↓reduceIte, wrR, nodes, w2']
          · exact ⟨⟨_, rfl, .refl _⟩, rfl, ⟨_, rfl, .refl _⟩, rfl, trivial⟩
    | 2, _ =>
      simp -implicitDefEqProofs only [go_sem, evR, ints, rows, rat, rats, evB, evC, nodes, intsO, decide_eq_false (show ¬ (2 : Int) < 2 by omega), Nat.lt_irrefl, decide_false, Bool.false_eq_true, Int.natCast_zero, Int.cast_ofNat_Int]
      refine he _ _ ?_
      simp -implicitDefEqProofs only [go_sem, evR, ints, rows, rat, rats]
      refine SemC.loopR (σ := Nat) (fun i => St.of [(7, .own 27), (68, .t (nodes g.nd)), (69, .t (.i g.nd.length)), (70, .t (.i i))] [(27, evB g s.2 t.2 (intsO (ownL g 0)) (intsO (ownL g 1)) (parN g.nd i))]) (fun i => i ≤ g.nd.length) (fun i => g.nd.length - i) 0 (Weak.of _ _ [some 27] (by simp) (by simp) ?_ ?_) (by omega) fun i hi R3 hn3 hr3 he3 => ?_
      · simp -implicitDefEqProofs only [ints, rows, Nat.reduceBEq, wkR, Nat.reduceEqDiff, ↓reduceIte, wrR, nodes, nd_len]
      · exact ⟨⟨_, rfl, .refl _⟩, rfl, trivial⟩
      · rcases Nat.lt_or_ge i g.nd.length with h9 | h9
        · obtain ⟨x, hx⟩ : ∃ x, g.nd[i]? = some x := ⟨_, List.getElem?_eq_getElem h9⟩
          have hch := ndOK_child (t2 i _ hx)
          obtain ⟨_, _, _, _, _, hch4⟩ := ndOK_fields (t2 i _ hx)
          simp -implicitDefEqProofs only [go_sem, evR, ints, rows, rat, rats, nodes, nd_at hx, decide_eq_true (show (i : Int) < (g.nd.length : Int) by omega), opR, Nat.reduceBEq]
          refine ⟨by omega, by rw [nd_len]; omega, by rw [nd_len]; omega, ?_⟩
          refine SemC.loopR (σ := Nat) (fun k => St.of [(7, .own 27), (11, .t (.i i)), (68, .t (nodes g.nd)), (69, .t (.i g.nd.length)), (70, .t (.i i)), (76, .t (ints x.ch)), (77, .t (.i x.ch.length)), (78, .t (.i k))] [(27, evB g s.2 t.2 (intsO (ownL g 0)) (intsO (ownL g 1)) (parK (parN g.nd i) x.ch i k))]) (fun k => k ≤ x.ch.length) (fun k => x.ch.length - k) 0 (Weak.of _ _ [some 27] (by simp) (by simp) ?_ ?_) (by omega) fun k hk R4 hn4 hr4 he4 => ?_
          · simp -implicitDefEqProofs only [ints, rows, Nat.reduceBEq, wkR, Nat.reduceEqDiff, ↓reduceIte, wrR, nodes]
          · exact ⟨⟨_, rfl, .refl _⟩, rfl, trivial⟩
          · rcases Nat.lt_or_ge k x.ch.length with h10 | h10
            · obtain ⟨c, hc⟩ : ∃ c, x.ch[k]? = some c := ⟨_, List.getElem?_eq_getElem h10⟩
              have hcb := hch c (List.mem_of_getElem? hc)
              obtain ⟨m, rfl⟩ : ∃ m : Nat, c = m := ⟨c.toNat, by omega⟩
              have hpl : (parK (parN g.nd i) x.ch i k).length = g.nd.length := by rw [parK_length, parN_length]
              simp -implicitDefEqProofs only [go_sem, evR, ints, rows, rat, rats, evB, nodes, intsO, hc, decide_eq_true (show (k : Int) < (x.ch.length : Int) by omega), hpl, opR, Nat.reduceBEq]
              refine ⟨by omega, by omega, by omega, by omega, by omega, by omega, hn4 _ (k + 1) (Weak.trans (Weak.close1 27 7 85 rfl rfl (by decide) rfl) (Weak.of _ _ [some 27] (by simp) (by simp) ?_ ?_)) (by omega) (by omega)⟩
              · simp -implicitDefEqProofs only [ints, rows, Nat.reduceBEq, wkR, Nat.reduceEqDiff, ↓reduceIte, wrR, nodes, next64 h10 (show x.ch.length ≤ 1000000000000 by omega)]
              · refine ⟨⟨_, rfl, ?_⟩, rfl, trivial⟩
                rw [parK_succ hc]; simp only [evB, intsO, List.map_set]; exact .refl _
            · simp -implicitDefEqProofs only [go_sem, evR, ints, rows, rat, rats, evB, nodes, intsO, decide_eq_false (show ¬ (k : Int) < (x.ch.length : Int) by omega)]
              refine he4 _ _ ?_
              simp -implicitDefEqProofs only [go_sem, evR, ints, rows, rat, rats]
              refine hn3 _ (i + 1) (Weak.of _ _ [some 27] (by simp) (by simp) ?_ ?_) (by omega) (by omega)
              · simp -implicitDefEqProofs only [ints, rows, Nat.reduceBEq, wkR, Nat.reduceEqDiff, ↓reduceIte, wrR, nodes, next64 h9 (by omega)]
              · refine ⟨⟨_, rfl, ?_⟩, rfl, trivial⟩
                rw [parN_step hx, show k = x.ch.length by omega, parK, List.take_of_length_le (Nat.le_refl _)]; exact .refl _
        · simp -implicitDefEqProofs only [go_sem, evR, ints, rows, rat, rats, nodes, decide_eq_false (show ¬ (i : Int) < (g.nd.length : Int) by omega)]
          refine he3 _ _ ?_
          simp -implicitDefEqProofs only [go_sem, evR, ints, rows, rat, rats, evB]
          rw [show i = g.nd.length by omega]; rfl
end
end Go.Ab

/- Contracts: values of nodes and numbers of games. -/
set_option linter.unusedSimpArgs false
set_option linter.unusedVariables false
namespace Go.Ab
open Go.Proofs

def chP (g : Gm) (s t : List (List Int)) (i a b : Nat) : List Int := if (g.nd.getD i nd0).p = 0 then partsOf g s 0 i a else partsOf g t 1 i b
theorem partsOK_row {g : Gm} {pt : List (List Int)} {pl : Int} (hnd : ndsOK g.nd) (hpl : pl ≠ 2) (h : partsOK g pt pl) {i c : Nat} (hi : i < g.nd.length) (hc : c < g.w.length) (hp : (g.nd.getD i nd0).p = pl) : pt[setI g pl i c]? = some (partsOf g pt pl i c) := by
  obtain ⟨m1, m2, m3⟩ := h i c hi hc hp
  unfold partsOf at m3 ⊢
  rw [List.getD_eq_getElem?_getD] at m3 ⊢
  cases hx : pt[setI g pl i c]? with
  | some x => rfl
  | none => rw [hx] at m3; simp [sumI] at m3
theorem chP_spec {g : Gm} {s t : List (List Int)} (hnd : ndsOK g.nd) (hs : partsOK g s 0) (ht : partsOK g t 1) {i a b : Nat} (hi : i < g.nd.length) (ha : a < g.w.length) (hb : b < g.w.length) (h2 : (g.nd.getD i nd0).p ≠ 2) :
    (chP g s t i a b).length = (g.nd.getD i nd0).ch.length ∧ (∀ x ∈ chP g s t i a b, 0 ≤ x ∧ x ≤ 60) ∧ sumI (chP g s t i a b) = 60 := by
  have hx : g.nd[i]? = some (g.nd.getD i nd0) := by rw [List.getD_eq_getElem?_getD, List.getElem?_eq_getElem hi]; rfl
  obtain ⟨⟨r1, r2⟩, _⟩ := ndOK_fields (hnd i _ hx)
  unfold chP
  by_cases h0 : (g.nd.getD i nd0).p = 0
  · rw [if_pos h0]; exact hs i a hi ha h0
  · rw [if_neg h0]; exact ht i b hi hb (by omega)
theorem valK_all {g : Gm} {s t : List (List Int)} {f i a b p : Nat} (h2 : (g.nd.getD i nd0).p ≠ 2) {n : Nat} (hn : (g.nd.getD i nd0).ch.length ≤ n) : valK g s t f a b (p - 1) (chP g s t i a b) (g.nd.getD i nd0).ch n = val g s t (f + 1) i a b p := by
  rw [val]
  (try simp only [])
  rw [if_neg h2, valK, chP, List.take_of_length_le]
  rw [List.length_zipWith]; omega
theorem valK_abs {g : Gm} {s t : List (List Int)} (hnd : ndsOK g.nd) (hs : partsOK g s 0) (ht : partsOK g t 1) {a b : Nat} (ha : a < g.w.length) (hb : b < g.w.length) {f p : Nat} {q ch : List Int} (hq : ∀ x ∈ q, 0 ≤ x ∧ x ≤ 60) (hc : ∀ c ∈ ch, 0 ≤ c ∧ c.toNat < g.nd.length ∧ dep g.nd f c.toNat ≤ p) : ∀ k, k ≤ q.length → k ≤ ch.length → -(k * (6000 * pw p)) ≤ valK g s t f a b p q ch k ∧ valK g s t f a b p q ch k ≤ k * (6000 * pw p)
  | 0, _, _ => by simp [valK, sumI]
  | k + 1, h, h' => by
    have ih := valK_abs hnd hs ht ha hb hq hc k (by omega) (by omega)
    have hx := List.getElem?_eq_getElem (show k < q.length by omega)
    have hy := List.getElem?_eq_getElem (show k < ch.length by omega)
    rw [valK_succ hx hy]
    have h1 := hq _ (List.getElem_mem (show k < q.length by omega))
    have h2 := hc _ (List.getElem_mem (show k < ch.length by omega))
    have h3 := val_abs hnd hs ht ha hb f _ p h2.2.1 h2.2.2
    obtain ⟨m1, m2⟩ := mul_abs h1.1 h3.1 h3.2
    have hp := pw_pos p
    have m3 : 100 * pw p * q[k] ≤ 100 * pw p * 60 := Int.mul_le_mul_of_nonneg_left h1.2 (by omega)
    have e : ((k + 1 : Nat) : Int) * (6000 * pw p) = (k : Int) * (6000 * pw p) + 6000 * pw p := by rw [Int.natCast_succ, Int.add_mul, Int.one_mul]
    rw [e]
    generalize (k : Int) * (6000 * pw p) = Z at ih ⊢
    generalize q[k] * val g s t f (ch[k]).toNat a b p = Y at m1 m2 ⊢
    generalize 100 * pw p * q[k] = U at m1 m2 m3
    omega
theorem pw_le5 {p : Nat} (h : p ≤ 5) : 1 ≤ pw p ∧ pw p ≤ 777600000 := by
  have : p = 0 ∨ p = 1 ∨ p = 2 ∨ p = 3 ∨ p = 4 ∨ p = 5 := by omega
  rcases this with rfl | rfl | rfl | rfl | rfl | rfl <;> decide

theorem sumI_rsucc (F : Nat → Int) (n : Nat) : sumI ((List.range (n + 1)).map F) = sumI ((List.range n).map F) + F n := by
  rw [List.range_succ, List.map_append, List.map_cons, List.map_nil, sumI_snoc]
section
attribute [-go_sem] load1C load1V fldC lenC idxC loadNV nilCheckW
set_option maxRecDepth 20000 in
theorem impl_partsAt_ok {g : Gm} {s t : List (List Int)} (hg : isGameB g = true) (hs : partsOK g s 0) (ht : partsOK g t 1) {i a b : Nat} (hi : i < g.nd.length) (ha : a < g.w.length) (hb : b < g.w.length) (h2 : (g.nd.getD i nd0).p ≠ 2) :
    Pure Try.prog 214 [.pin (evL g s t) 0, .i i, .i a, .i b] (ints (chP g s t i a b)) := by
  obtain ⟨p1, p2, p3, p4, p5⟩ := isGameB_parts hg
  obtain ⟨t1, t2, t3, t4⟩ := isTreeB_spec p1
  obtain ⟨x, hx⟩ : ∃ x, g.nd[i]? = some x := ⟨_, List.getElem?_eq_getElem hi⟩
  have hxd : g.nd.getD i nd0 = x := by rw [List.getD_eq_getElem?_getD, hx]; rfl
  obtain ⟨⟨r1, r2⟩, _⟩ := ndOK_fields (t2 _ _ hx)
  rw [hxd] at h2
  refine fun___impl_evaluator__partsAt (by simp) ?_
  have hcase : x.p = 0 ∨ x.p = 1 := by omega
  rcases hcase with h0 | h0
  · have hpd : (g.nd.getD i nd0).p = 0 := by rw [hxd]; exact h0
    have hrow := partsOK_row t2 (by decide) hs hi ha hpd
    have hoi := ownL_get hi hpd
    have hol := ownL_length g 0
    have hrl := (List.getElem?_eq_some_iff.1 hrow).1
    have hset : setI g 0 i a = (idxs g.nd 0 i).length * g.w.length + a := rfl
    have hil := idxs_length g.nd 0 i
    have hm : (idxs g.nd 0 i).length * g.w.length ≤ 60 * 6 := Nat.mul_le_mul (by omega) p2.2
    rw [chP, if_pos hpd]
    simp -implicitDefEqProofs only [go_sem, evR, ints, rows, rat, rats, c___impl_evaluator__partsAt, evL, nodes, nd_get0 hx, h0, hoi, hrow, hol, show ((0 : Int) == 1) = false from rfl, show ((1 : Int) == 1) = true from rfl, show IntKind.i64.wrap ((((idxs g.nd 0 i).length * g.w.length : Nat) : Int) + (a : Int)) = ((setI g 0 i a : Nat) : Int) by rw [wrap64 (by omega) (by omega)]; omega]
    rw [nd_len]; omega
  · have hpd : (g.nd.getD i nd0).p = 1 := by rw [hxd]; exact h0
    have hrow := partsOK_row t2 (by decide) ht hi hb hpd
    have hoi := ownL_get hi hpd
    have hol := ownL_length g 1
    have hrl := (List.getElem?_eq_some_iff.1 hrow).1
    have hset : setI g 1 i b = (idxs g.nd 1 i).length * g.w.length + b := rfl
    have hil := idxs_length g.nd 1 i
    have hm : (idxs g.nd 1 i).length * g.w.length ≤ 60 * 6 := Nat.mul_le_mul (by omega) p2.2
    rw [chP, if_neg (by omega)]
    simp -implicitDefEqProofs only [go_sem, evR, ints, rows, rat, rats, c___impl_evaluator__partsAt, evL, nodes, nd_get0 hx, h0, hoi, hrow, hol, show ((0 : Int) == 1) = false from rfl, show ((1 : Int) == 1) = true from rfl, show IntKind.i64.wrap ((((idxs g.nd 1 i).length * g.w.length : Nat) : Int) + (b : Int)) = ((setI g 1 i b : Nat) : Int) by rw [wrap64 (by omega) (by omega)]; omega]
    rw [nd_len]; omega
theorem partsAt_t {g : Gm} {s t : List (List Int)} (hg : isGameB g = true) (hs : partsOK g s 0) (ht : partsOK g t 1) {i a b : Nat} (hi : i < g.nd.length) (ha : a < g.w.length) (hb : b < g.w.length) (h2 : (g.nd.getD i nd0).p ≠ 2) :
    Pure Try.prog 214 [.pin [.sh 5 (chunk nodeC g.nd), .sh 1 (g.w.map ints), .sh 1 (g.v.map ints), .sh 1 ((ownL g 0).map T.i), .sh 1 ((ownL g 1).map T.i), .sh 1 (s.map ints), .sh 1 (t.map ints), .sh 1 ((parN g.nd g.nd.length).map T.i)] 0, .i i, .i a, .i b] (ints (chP g s t i a b)) := impl_partsAt_ok hg hs ht hi ha hb h2
theorem value_t {g : Gm} {s t : List (List Int)} {i a b p : Int} {r : Int} (h : Pure Try.prog 180 [.pin (evL g s t) 0, .i i, .i a, .i b, .i p] (.i r)) :
    Pure Try.prog 180 [.pin [.sh 5 (chunk nodeC g.nd), .sh 1 (g.w.map ints), .sh 1 (g.v.map ints), .sh 1 ((ownL g 0).map T.i), .sh 1 ((ownL g 1).map T.i), .sh 1 (s.map ints), .sh 1 (t.map ints), .sh 1 ((parN g.nd g.nd.length).map T.i)] 0, .i i, .i a, .i b, .i p] (.i r) := h
set_option maxRecDepth 20000 in
theorem impl_value_ok {g : Gm} {s t : List (List Int)} (hg : isGameB g = true) (hs : partsOK g s 0) (ht : partsOK g t 1) {a b : Nat} (ha : a < g.w.length) (hb : b < g.w.length) : ∀ (f i p : Nat), g.nd.length ≤ i + f → i < g.nd.length → dep g.nd f i ≤ p → p ≤ 5 →
    Pure Try.prog 180 [.pin (evL g s t) 0, .i i, .i a, .i b, .i p] (.i (val g s t f i a b p)) := by
  obtain ⟨p1, p2, p3, p4, p5⟩ := isGameB_parts hg
  obtain ⟨t1, t2, t3, t4⟩ := isTreeB_spec p1
  have hpay := payOK_of t2
  intro f
  induction f with
  | zero => intro i p h1 h2; omega
  | succ f ih =>
    intro i p hf hi hdp hp5
    obtain ⟨x, hx⟩ : ∃ x, g.nd[i]? = some x := ⟨_, List.getElem?_eq_getElem hi⟩
    have hxd : g.nd.getD i nd0 = x := by rw [List.getD_eq_getElem?_getD, hx]; rfl
    have hxl := (ndOK_fields (t2 _ _ hx)).2.2.2.2.2
    have hpw := pw_le5 hp5
    have hV2 : x.p = 2 → val g s t (f + 1) i a b p = pay g i a b * pw p := fun h => by rw [val]; (try simp only []); rw [if_pos (by rw [hxd]; exact h)]
    have hV1 : x.p ≠ 2 → ∀ n, x.ch.length ≤ n → valK g s t f a b (p - 1) (chP g s t i a b) x.ch n = val g s t (f + 1) i a b p := fun h n hn => by
      have := valK_all (g := g) (s := s) (t := t) (f := f) (i := i) (a := a) (b := b) (p := p) (n := n) (by rw [hxd]; exact h) (by rw [hxd]; exact hn)
      rw [hxd] at this; exact this
    generalize val g s t (f + 1) i a b p = V' at hV2 hV1 ⊢
    refine fun___impl_evaluator__value (by simp) ?_
    simp -implicitDefEqProofs only [go_sem, evR, ints, rows, rat, rats, c___impl_evaluator__value, evL, nodes, nd_at hx]
    refine ⟨by omega, by rw [nd_len]; omega, by rw [nd_len]; omega, ?_⟩
    refine ⟨fun h2 => ?_, fun h2 => ?_⟩
    · have h2 : x.p = 2 := by simpa using h2
      rw [hV2 h2]
      refine CallW.pure (payoffAt_t hg i a b hi ha hb) [] rfl Try.call213 ?_ (by first | trivial | simp [T.noSh, T.noShL, rat]) rfl ?_
      · simp -implicitDefEqProofs only [agR, Nat.reduceLeDiff, Nat.reduceSub, vaR, go_sem, ints, rows, rat, rats, ratsO, rtR, intsO, rowsO]
      simp -implicitDefEqProofs only [go_sem, evR, ints, rows, rat, rats]
      refine CallW.pure (impl_powerOf_ok p (by omega)) [] rfl Try.call163 ?_ (by first | trivial | simp [T.noSh, T.noShL, rat]) rfl ?_
      · simp -implicitDefEqProofs only [agR, Nat.reduceLeDiff, Nat.reduceSub, vaR, go_sem, ints, rows, rat, rats, ratsO, rtR, intsO, rowsO]
      simp -implicitDefEqProofs only [go_sem, evR, ints, rows, rat, rats]
      have q1 := hpay i a b
      have m1 := Int.mul_le_mul_of_nonneg_right q1.2 (show 0 ≤ pw p by omega)
      have m2 := Int.mul_le_mul_of_nonneg_right q1.1 (show 0 ≤ pw p by omega)
      rw [wrap64 (n := pay g i a b * pw p) (by omega) (by omega)]
    · have h2 : x.p ≠ 2 := by simpa using h2
      have hp2 : (g.nd.getD i nd0).p ≠ 2 := by rw [hxd]; exact h2
      obtain ⟨d1, d2⟩ := dep_child (f := f) hp2
      rw [hxd] at d2
      have hch := ndOK_child (t2 _ _ hx)
      obtain ⟨c1, c2, c3⟩ := chP_spec t2 hs ht hi ha hb hp2
      rw [hxd] at c1
      obtain ⟨p', rfl⟩ : ∃ p', p = p' + 1 := ⟨p - 1, by omega⟩
      have hpw' := pw_le5 (show p' ≤ 5 by omega)
      have hcond : ∀ c ∈ x.ch, 0 ≤ c ∧ c.toNat < g.nd.length ∧ dep g.nd f c.toNat ≤ p' := fun c hc => by
        have h1 := hch c hc
        have h3 := d2 c hc
        omega
      refine CallW.res (partsAt_t hg hs ht hi ha hb hp2) [] rfl Try.call214 ?_ (.inl rfl) ?_
      · simp -implicitDefEqProofs only [agR, Nat.reduceLeDiff, Nat.reduceSub, vaR, go_sem, ints, rows, rat, rats, ratsO, rtR, intsO, rowsO]
      simp -implicitDefEqProofs only [clR, Nat.reduceLeDiff, go_sem, evR, rat, ints]
      rw [Nat.add_sub_cancel] at hV1
      generalize chP g s t i a b = q at hV1 c1 c2 c3 ⊢
      have hKA := valK_abs t2 hs ht ha hb (f := f) c2 hcond
      refine SemC.loopR (σ := Nat) (fun k => St.of [(0, .t (.pin (evL g s t) 0)), (1, .t (.i i)), (2, .t (.i a)), (3, .t (.i b)), (4, .t (.i (p' + 1 : Nat))), (11, .own 11), (12, .t (.i (valK g s t f a b p' q x.ch k))), (42, .t (ints q)), (43, .t (.i q.length)), (44, .t (.i k))] [(11, .box [.i x.p, .i x.a, .i x.b, .i x.f, ints x.ch])]) (fun k => k ≤ q.length) (fun k => q.length - k) 0 (Weak.of _ _ [some 11] (by simp) (by simp) ?_ ?_) (by omega) fun k hk R hn hr he => ?_
      · simp -implicitDefEqProofs only [ints, rows, Nat.reduceBEq, wkR, Nat.reduceEqDiff, ↓reduceIte, wrR, evL, nodes, show valK g s t f a b p' q x.ch 0 = 0 from rfl]
      · exact ⟨⟨_, rfl, .refl _⟩, rfl, trivial⟩
      · rcases Nat.lt_or_ge k q.length with h9 | h9
        · obtain ⟨y, hy⟩ : ∃ y, q[k]? = some y := ⟨_, List.getElem?_eq_getElem h9⟩
          obtain ⟨c, hc⟩ : ∃ c, x.ch[k]? = some c := ⟨_, List.getElem?_eq_getElem (by omega)⟩
          have hyb := c2 y (List.mem_of_getElem? hy)
          have hcb := hcond c (List.mem_of_getElem? hc)
          have hcb1 := hch c (List.mem_of_getElem? hc)
          have hsu := valK_succ (g := g) (s := s) (t := t) (f := f) (a := a) (b := b) (p := p') hy hc
          have k1 := hKA k (by omega) (by omega)
          have k2 := hKA (k + 1) (by omega) (by omega)
          have k3 : (k : Int) * (6000 * pw p') ≤ 4 * 4665600000000 := Int.mul_le_mul (by omega) (by omega) (by omega) (by decide)
          have k4 : ((k + 1 : Nat) : Int) * (6000 * pw p') ≤ 4 * 4665600000000 := Int.mul_le_mul (by omega) (by omega) (by omega) (by decide)
          simp -implicitDefEqProofs only [go_sem, evR, ints, rows, rat, rats, evL, nodes, hy, hc, decide_eq_true (show (k : Int) < (q.length : Int) by omega), wrap64 (n := (p' : Int)) (by omega) (by omega), show ((p' + 1 : Nat) : Int) - 1 = (p' : Int) by omega]
          refine ⟨by omega, by omega, by omega, fun h5 => ⟨by omega, by omega, by omega, ?_⟩, fun h5 => ?_⟩
          · have hcall := value_t (ih c.toNat p' (by omega) hcb.2.1 hcb.2.2 (by omega))
            rw [show ((c.toNat : Nat) : Int) = c by omega] at hcall
            have hva := val_abs t2 hs ht ha hb f c.toNat p' hcb.2.1 hcb.2.2
            obtain ⟨m1, m2⟩ := mul_abs hyb.1 hva.1 hva.2
            have m3 : 100 * pw p' * y ≤ 77760000000 * 60 := Int.mul_le_mul (by omega) hyb.2 hyb.1 (by decide)
            refine CallW.pure hcall [] rfl Try.call180 ?_ (by first | trivial | simp [T.noSh, T.noShL, rat]) rfl ?_
            · simp -implicitDefEqProofs only [agR, Nat.reduceLeDiff, Nat.reduceSub, vaR, go_sem, ints, rows, rat, rats, ratsO, rtR, intsO, rowsO]
            simp -implicitDefEqProofs only [go_sem, evR, ints, rows, rat, rats]
            refine hn _ (k + 1) (Weak.of _ _ [some 11] (by simp) (by simp) ?_ ?_) (by omega) (by omega)
            · simp -implicitDefEqProofs only [ints, rows, Nat.reduceBEq, wkR, Nat.reduceEqDiff, ↓reduceIte, wrR, evL, nodes, next64 h9 (by omega), wrap64 (n := y * val g s t f c.toNat a b p') (by omega) (by omega), ← hsu, wrap64 (n := valK g s t f a b p' q x.ch (k + 1)) (by omega) (by omega)]
            · exact ⟨⟨_, rfl, .refl _⟩, rfl, trivial⟩
          · have hy0 : y = 0 := by have : ¬ y > 0 := by simpa using h5
                                   omega
            rw [hy0, Int.zero_mul, Int.add_zero] at hsu
            refine hn _ (k + 1) (Weak.of _ _ [some 11] (by simp) (by simp) ?_ ?_) (by omega) (by omega)
            · simp -implicitDefEqProofs only [ints, rows, Nat.reduceBEq, wkR, Nat.reduceEqDiff, ↓reduceIte, wrR, evL, nodes, next64 h9 (by omega), hsu]
            · exact ⟨⟨_, rfl, .refl _⟩, rfl, trivial⟩
        · simp -implicitDefEqProofs only [go_sem, evR, ints, rows, rat, rats, evL, nodes, decide_eq_false (show ¬ (k : Int) < (q.length : Int) by omega)]
          refine he _ _ ?_
          simp -implicitDefEqProofs only [go_sem, evR, ints, rows, rat, rats]
          rw [hV1 h2 k (by omega)]

theorem newEv_t (g : Gm) (s t : Int × List (List Int)) (hg : isGameB g = true) : Fun Try.prog 179 [] [.t (.agg [.sh 5 (chunk nodeC g.nd), .sh 1 (g.w.map ints), .sh 1 (g.v.map ints)]), .t (.agg [.i s.1, .sh 1 (s.2.map ints)]), .t (.agg [.i t.1, .sh 1 (t.2.map ints)])] fun o r => o = [] ∧ r = evO g s.2 t.2 := impl_newEvaluator_ok g s t hg
set_option maxRecDepth 20000 in
theorem spec_l23Choice_ok {g : Gm} {s t : Int × List (List Int)} (hg : isGameB g = true) (hs : partsOK g s.2 0) (ht : partsOK g t.2 1) {i a b : Nat} (hi : i < g.nd.length) (ha : a < g.w.length) (hb : b < g.w.length) (h2 : (g.nd.getD i nd0).p ≠ 2) :
    Pure Try.prog 216 [gameT g, stratT s, stratT t, .i i, .i a, .i b] (ints (chP g s.2 t.2 i a b)) := by
  obtain ⟨p1, p2, p3, p4, p5⟩ := isGameB_parts hg
  obtain ⟨t1, t2, t3, t4⟩ := isTreeB_spec p1
  obtain ⟨x, hx⟩ : ∃ x, g.nd[i]? = some x := ⟨_, List.getElem?_eq_getElem hi⟩
  have hxd : g.nd.getD i nd0 = x := by rw [List.getD_eq_getElem?_getD, hx]; rfl
  obtain ⟨⟨r1, r2⟩, _⟩ := ndOK_fields (t2 _ _ hx)
  rw [hxd] at h2
  refine fun_spec_l23Choice (by simp) ?_
  have hcase : x.p = 0 ∨ x.p = 1 := by omega
  rcases hcase with h0 | h0
  · have hpd : (g.nd.getD i nd0).p = 0 := by rw [hxd]; exact h0
    have hrow := partsOK_row t2 (by decide) hs hi ha hpd
    have hrl := (List.getElem?_eq_some_iff.1 hrow).1
    rw [chP, if_pos hpd]
    simp -implicitDefEqProofs only [go_sem, evR, ints, rows, rat, rats, c_spec_l23Choice, gameT, stratT, nodes, nd_get0 hx, h0, show ((0 : Int) == 0) = true from rfl]
    refine ⟨by omega, by rw [nd_len]; omega, by rw [nd_len]; omega, ?_⟩
    refine CallV.pure (l23Set_t hg hi hpd ha) [] rfl Try.call221 (fun e R' hR => ?_) (by first | trivial | simp [T.noSh, T.noShL, rat]) (fun _ => rfl) ?_
    · simp -implicitDefEqProofs only [agR, Nat.reduceLeDiff, Nat.reduceSub, vaR, go_sem, ints, rows, rat, rats, ratsO, rtR, intsO, rowsO]
    simp -implicitDefEqProofs only [go_sem, evR, ints, rows, rat, rats, hrow]
    omega
  · have hpd : (g.nd.getD i nd0).p = 1 := by rw [hxd]; exact h0
    have hrow := partsOK_row t2 (by decide) ht hi hb hpd
    have hrl := (List.getElem?_eq_some_iff.1 hrow).1
    rw [chP, if_neg (by omega)]
    simp -implicitDefEqProofs only [go_sem, evR, ints, rows, rat, rats, c_spec_l23Choice, gameT, stratT, nodes, nd_get0 hx, h0, show ((1 : Int) == 0) = false from rfl]
    refine ⟨by omega, by rw [nd_len]; omega, by rw [nd_len]; omega, ?_⟩
    refine CallV.pure (l23Set_t hg hi hpd hb) [] rfl Try.call221 (fun e R' hR => ?_) (by first | trivial | simp [T.noSh, T.noShL, rat]) (fun _ => rfl) ?_
    · simp -implicitDefEqProofs only [agR, Nat.reduceLeDiff, Nat.reduceSub, vaR, go_sem, ints, rows, rat, rats, ratsO, rtR, intsO, rowsO]
    simp -implicitDefEqProofs only [go_sem, evR, ints, rows, rat, rats, hrow]
    omega
theorem choice_t {g : Gm} {s t : Int × List (List Int)} (hg : isGameB g = true) (hs : partsOK g s.2 0) (ht : partsOK g t.2 1) {i a b : Nat} (hi : i < g.nd.length) (ha : a < g.w.length) (hb : b < g.w.length) (h2 : (g.nd.getD i nd0).p ≠ 2) :
    Pure Try.prog 216 [.agg [.sh 5 (chunk nodeC g.nd), .sh 1 (g.w.map ints), .sh 1 (g.v.map ints)], .agg [.i s.1, .sh 1 (s.2.map ints)], .agg [.i t.1, .sh 1 (t.2.map ints)], .i i, .i a, .i b] (ints (chP g s.2 t.2 i a b)) := spec_l23Choice_ok hg hs ht hi ha hb h2
theorem l21Payoff_t {g : Gm} (hg : isGameB g = true) (i a b : Nat) (hi : i < g.nd.length) (ha : a < g.w.length) (hb : b < g.w.length) : Pure Try.prog 215 [.agg [.sh 5 (chunk nodeC g.nd), .sh 1 (g.w.map ints), .sh 1 (g.v.map ints)], .i i, .i a, .i b] (.i (pay g i a b)) := spec_l21Payoff_ok g hg i a b hi ha hb
theorem sval_t {g : Gm} {s t : Int × List (List Int)} {i a b p r : Int} (h : Pure Try.prog 183 [gameT g, stratT s, stratT t, .i i, .i a, .i b, .i p] (.i r)) :
    Pure Try.prog 183 [.agg [.sh 5 (chunk nodeC g.nd), .sh 1 (g.w.map ints), .sh 1 (g.v.map ints)], .agg [.i s.1, .sh 1 (s.2.map ints)], .agg [.i t.1, .sh 1 (t.2.map ints)], .i i, .i a, .i b, .i p] (.i r) := h
set_option maxRecDepth 20000 in
theorem spec_l23Value_ok {g : Gm} {s t : Int × List (List Int)} (hg : isGameB g = true) (hs : partsOK g s.2 0) (ht : partsOK g t.2 1) {a b : Nat} (ha : a < g.w.length) (hb : b < g.w.length) : ∀ (f i p : Nat), g.nd.length ≤ i + f → i < g.nd.length → dep g.nd f i ≤ p → p ≤ 5 →
    Pure Try.prog 183 [gameT g, stratT s, stratT t, .i i, .i a, .i b, .i p] (.i (val g s.2 t.2 f i a b p)) := by
  obtain ⟨p1, p2, p3, p4, p5⟩ := isGameB_parts hg
  obtain ⟨t1, t2, t3, t4⟩ := isTreeB_spec p1
  have hpay := payOK_of t2
  intro f
  induction f with
  | zero => intro i p h1 h2; omega
  | succ f ih =>
    intro i p hf hi hdp hp5
    obtain ⟨x, hx⟩ : ∃ x, g.nd[i]? = some x := ⟨_, List.getElem?_eq_getElem hi⟩
    have hxd : g.nd.getD i nd0 = x := by rw [List.getD_eq_getElem?_getD, hx]; rfl
    have hxl := (ndOK_fields (t2 _ _ hx)).2.2.2.2.2
    have hpw := pw_le5 hp5
    have hV2 : x.p = 2 → val g s.2 t.2 (f + 1) i a b p = pay g i a b * pw p := fun h => by rw [val]; (try simp only []); rw [if_pos (by rw [hxd]; exact h)]
    have hV1 : x.p ≠ 2 → ∀ n, x.ch.length ≤ n → valK g s.2 t.2 f a b (p - 1) (chP g s.2 t.2 i a b) x.ch n = val g s.2 t.2 (f + 1) i a b p := fun h n hn => by
      have := valK_all (g := g) (s := s.2) (t := t.2) (f := f) (i := i) (a := a) (b := b) (p := p) (n := n) (by rw [hxd]; exact h) (by rw [hxd]; exact hn)
      rw [hxd] at this; exact this
    generalize val g s.2 t.2 (f + 1) i a b p = V' at hV2 hV1 ⊢
    refine fun_spec_l23Value (by simp) ?_
    simp -implicitDefEqProofs only [go_sem, evR, ints, rows, rat, rats, c_spec_l23Value, gameT, stratT, nodes, nd_at hx]
    refine ⟨by omega, by rw [nd_len]; omega, by rw [nd_len]; omega, ?_⟩
    refine ⟨fun h2 => ?_, fun h2 => ?_⟩
    · have h2 : x.p = 2 := by simpa using h2
      rw [hV2 h2]
      refine CallW.pure (l21Payoff_t hg i a b hi ha hb) [] rfl Try.call215 ?_ (by first | trivial | simp [T.noSh, T.noShL, rat]) rfl ?_
      · simp -implicitDefEqProofs only [agR, Nat.reduceLeDiff, Nat.reduceSub, vaR, go_sem, ints, rows, rat, rats, ratsO, rtR, intsO, rowsO]
      simp -implicitDefEqProofs only [go_sem, evR, ints, rows, rat, rats]
      refine CallW.pure (spec_l23Power_ok p (by omega)) [] rfl Try.call157 ?_ (by first | trivial | simp [T.noSh, T.noShL, rat]) rfl ?_
      · simp -implicitDefEqProofs only [agR, Nat.reduceLeDiff, Nat.reduceSub, vaR, go_sem, ints, rows, rat, rats, ratsO, rtR, intsO, rowsO]
      simp -implicitDefEqProofs only [go_sem, evR, ints, rows, rat, rats]
      have q1 := hpay i a b
      have m1 := Int.mul_le_mul_of_nonneg_right q1.2 (show 0 ≤ pw p by omega)
      have m2 := Int.mul_le_mul_of_nonneg_right q1.1 (show 0 ≤ pw p by omega)
      rw [wrap64 (n := pay g i a b * pw p) (by omega) (by omega)]
    · have h2 : x.p ≠ 2 := by simpa using h2
      have hp2 : (g.nd.getD i nd0).p ≠ 2 := by rw [hxd]; exact h2
      obtain ⟨d1, d2⟩ := dep_child (f := f) hp2
      rw [hxd] at d2
      have hch := ndOK_child (t2 _ _ hx)
      obtain ⟨c1, c2, c3⟩ := chP_spec t2 hs ht hi ha hb hp2
      rw [hxd] at c1
      obtain ⟨p', rfl⟩ : ∃ p', p = p' + 1 := ⟨p - 1, by omega⟩
      have hpw' := pw_le5 (show p' ≤ 5 by omega)
      have hcond : ∀ c ∈ x.ch, 0 ≤ c ∧ c.toNat < g.nd.length ∧ dep g.nd f c.toNat ≤ p' := fun c hc => by
        have h1 := hch c hc
        have h3 := d2 c hc
        omega
      refine CallW.res (choice_t hg hs ht hi ha hb hp2) [] rfl Try.call216 ?_ (.inl rfl) ?_
      · simp -implicitDefEqProofs only [agR, Nat.reduceLeDiff, Nat.reduceSub, vaR, go_sem, ints, rows, rat, rats, ratsO, rtR, intsO, rowsO]
      simp -implicitDefEqProofs only [clR, Nat.reduceLeDiff, go_sem, evR, rat, ints]
      rw [Nat.add_sub_cancel] at hV1
      generalize chP g s.2 t.2 i a b = q at hV1 c1 c2 c3 ⊢
      have hKA := valK_abs t2 hs ht ha hb (f := f) c2 hcond
      refine SemC.loopR (σ := Nat) (fun k => St.of [(3, .t (.i i)), (4, .t (.i a)), (5, .t (.i b)), (6, .t (.i (p' + 1 : Nat))), (7, .own 7), (8, .own 8), (9, .own 9), (15, .own 15), (16, .t (ints q)), (17, .t (.i (valK g s.2 t.2 f a b p' q x.ch k))), (18, .t (.i k))] [(7, .box [nodes g.nd, rows g.w, rows g.v]), (8, .box [.i s.1, rows s.2]), (9, .box [.i t.1, rows t.2]), (15, .box [.i x.p, .i x.a, .i x.b, .i x.f, ints x.ch])]) (fun k => k ≤ q.length) (fun k => q.length - k) 0 (Weak.of _ _ [some 7, some 8, some 9, some 15] (by simp) (by simp) ?_ ?_) (by omega) fun k hk R hn hr he => ?_
      · simp -implicitDefEqProofs only [ints, rows, Nat.reduceBEq, wkR, Nat.reduceEqDiff, ↓reduceIte, wrR, nodes, show valK g s.2 t.2 f a b p' q x.ch 0 = 0 from rfl]
      · exact ⟨⟨_, rfl, .refl _⟩, rfl, ⟨_, rfl, .refl _⟩, rfl, ⟨_, rfl, .refl _⟩, rfl, ⟨_, rfl, .refl _⟩, rfl, trivial⟩
      · rcases Nat.lt_or_ge k q.length with h9 | h9
        · obtain ⟨y, hy⟩ : ∃ y, q[k]? = some y := ⟨_, List.getElem?_eq_getElem h9⟩
          obtain ⟨c, hc⟩ : ∃ c, x.ch[k]? = some c := ⟨_, List.getElem?_eq_getElem (by omega)⟩
          have hyb := c2 y (List.mem_of_getElem? hy)
          have hcb := hcond c (List.mem_of_getElem? hc)
          have hcb1 := hch c (List.mem_of_getElem? hc)
          have hsu := valK_succ (g := g) (s := s.2) (t := t.2) (f := f) (a := a) (b := b) (p := p') hy hc
          have k1 := hKA k (by omega) (by omega)
          have k2 := hKA (k + 1) (by omega) (by omega)
          have k3 : (k : Int) * (6000 * pw p') ≤ 4 * 4665600000000 := Int.mul_le_mul (by omega) (by omega) (by omega) (by decide)
          have k4 : ((k + 1 : Nat) : Int) * (6000 * pw p') ≤ 4 * 4665600000000 := Int.mul_le_mul (by omega) (by omega) (by omega) (by decide)
          have hcall := sval_t (ih c.toNat p' (by omega) hcb.2.1 hcb.2.2 (by omega))
          rw [show ((c.toNat : Nat) : Int) = c by omega] at hcall
          have hva := val_abs t2 hs ht ha hb f c.toNat p' hcb.2.1 hcb.2.2
          obtain ⟨m1, m2⟩ := mul_abs hyb.1 hva.1 hva.2
          have m3 : 100 * pw p' * y ≤ 77760000000 * 60 := Int.mul_le_mul (by omega) hyb.2 hyb.1 (by decide)
          simp -implicitDefEqProofs only [go_sem, evR, ints, rows, rat, rats, nodes, hy, hc, decide_eq_true (show (k : Int) < (x.ch.length : Int) by omega), wrap64 (n := (p' : Int)) (by omega) (by omega), show ((p' + 1 : Nat) : Int) - 1 = (p' : Int) by omega]
          refine ⟨by omega, by omega, by omega, by omega, by omega, by omega, ?_⟩
          refine CallV.pure hcall [] rfl Try.call183 (fun e R' hR => ?_) (by first | trivial | simp [T.noSh, T.noShL, rat]) (fun _ => rfl) ?_
          · simp -implicitDefEqProofs only [agR, Nat.reduceLeDiff, Nat.reduceSub, vaR, go_sem, ints, rows, rat, rats, ratsO, rtR, intsO, rowsO]
          simp -implicitDefEqProofs only [go_sem, evR, ints, rows, rat, rats]
          refine hn _ (k + 1) (Weak.of _ _ [some 7, some 8, some 9, some 15] (by simp) (by simp) ?_ ?_) (by omega) (by omega)
          · simp -implicitDefEqProofs only [ints, rows, Nat.reduceBEq, wkR, Nat.reduceEqDiff, ↓reduceIte, wrR, nodes, next64 h9 (by omega), wrap64 (n := y * val g s.2 t.2 f c.toNat a b p') (by omega) (by omega), ← hsu, wrap64 (n := valK g s.2 t.2 f a b p' q x.ch (k + 1)) (by omega) (by omega)]
          · exact ⟨⟨_, rfl, .refl _⟩, rfl, ⟨_, rfl, .refl _⟩, rfl, ⟨_, rfl, .refl _⟩, rfl, ⟨_, rfl, .refl _⟩, rfl, trivial⟩
        · simp -implicitDefEqProofs only [go_sem, evR, ints, rows, rat, rats, nodes, decide_eq_false (show ¬ (k : Int) < (x.ch.length : Int) by omega)]
          refine he _ _ ?_
          simp -implicitDefEqProofs only [go_sem, evR, ints, rows, rat, rats]
          rw [hV1 h2 k (by omega)]

end
end Go.Ab

/- Games as data: counts, regrets and sums of the iterations. -/
set_option linter.unusedSimpArgs false
set_option linter.unusedVariables false
namespace Go.Ab

/-! Lists that are made new from the left. -/
def mixL {α : Type} (new old : List α) (i : Nat) : List α := new.take i ++ old.drop i
theorem mix_zero {α : Type} (new old : List α) : mixL new old 0 = old := by simp [mixL]
theorem mix_all {α : Type} {new old : List α} (h : new.length = old.length) : mixL new old old.length = new := by simp [mixL, ← h]
theorem mix_length {α : Type} {new old : List α} (h : new.length = old.length) {i : Nat} (hi : i ≤ old.length) : (mixL new old i).length = old.length := by simp [mixL]; omega
theorem mix_get {α : Type} {new old : List α} (h : new.length = old.length) {i : Nat} (hi : i < old.length) : (mixL new old i)[i]? = old[i]? := by
  rw [mixL, List.getElem?_append_right (by simp; omega)]
  simp [List.length_take, h, Nat.min_eq_left (Nat.le_of_lt hi)]
theorem mix_set {α : Type} {new old : List α} (h : new.length = old.length) {i : Nat} {y : α} (hy : new[i]? = some y) : (mixL new old i).set i y = mixL new old (i + 1) := by
  obtain ⟨hi, rfl⟩ := List.getElem?_eq_some_iff.1 hy
  have hl : (new.take i).length = i := by rw [List.length_take]; omega
  rw [mixL, mixL, List.set_append_right _ _ (by omega), hl, Nat.sub_self, List.drop_eq_getElem_cons (show i < old.length by omega), List.set_cons_zero, List.take_add_one, hy, Option.toList_some, List.append_assoc]; rfl
def sgn (pl : Int) : Int := if pl = 0 then 1 else -1
def wAt (g : Gm) (pl : Int) (c o : Nat) : Int := if pl = 0 then (g.w.getD c []).getD o 0 else (g.w.getD o []).getD c 0
def vAt (g : Gm) (s t : List (List Int)) (pl : Int) (kid c o p : Nat) : Int := if pl = 0 then val g s t g.nd.length kid c o p else val g s t g.nd.length kid o c p
def belowN (g : Gm) (n : Nat) : Nat := (dep g.nd g.nd.length n).toNat - 1
def rchW (g : Gm) (s t : List (List Int)) (pl : Int) (n c o : Nat) : Int := sgn pl * wAt g pl c o * wayP g (otOf pl s t) (1 - pl) o n
def cntF (g : Gm) (s t : List (List Int)) (pl : Int) (n c kid o : Nat) : Int := rchW g s t pl n c o * vAt g s t pl kid c o (belowN g n)
def cntN (g : Gm) (s t : List (List Int)) (pl : Int) (n c kid m : Nat) : Int := sumI ((List.range m).map (cntF g s t pl n c kid))
def cnts (g : Gm) (s t : List (List Int)) (pl : Int) (n c : Nat) : List Int := (g.nd.getD n nd0).ch.map fun k => cntN g s t pl n c k.toNat g.w.length
theorem cntN_succ (g : Gm) (s t : List (List Int)) (pl : Int) (n c kid m : Nat) : cntN g s t pl n c kid (m + 1) = cntN g s t pl n c kid m + cntF g s t pl n c kid m := sumI_rsucc _ _
theorem cnts_length (g : Gm) (s t : List (List Int)) (pl : Int) (n c : Nat) : (cnts g s t pl n c).length = (g.nd.getD n nd0).ch.length := by simp [cnts]
theorem cnts_get {g : Gm} {s t : List (List Int)} {pl : Int} {n c k : Nat} {x : Int} (h : (g.nd.getD n nd0).ch[k]? = some x) : (cnts g s t pl n c)[k]? = some (cntN g s t pl n c x.toNat g.w.length) := by rw [cnts, List.getElem?_map, h]; rfl
def meanP (q C : List Int) (k : Nat) : Int := sumI ((List.zipWith (fun x y => x * y) q C).take k)
theorem meanP_zero (q C : List Int) : meanP q C 0 = 0 := rfl
theorem meanP_succ {q C : List Int} {k : Nat} {x y : Int} (hx : q[k]? = some x) (hy : C[k]? = some y) : meanP q C (k + 1) = meanP q C k + x * y := by
  unfold meanP
  have h : (List.zipWith (fun x y => x * y) q C)[k]? = some (x * y) := by rw [List.getElem?_zipWith, hx, hy]
  rw [List.take_add_one, h, Option.toList_some, sumI_snoc]
def meanA (q C : List Int) : Int := meanP q C C.length
def updR (r C : List Int) (M : Int) : List Int := List.zipWith (fun x y => x + (60 * y - M)) r C
def updW (s q : List Int) (w : Int) : List Int := List.zipWith (fun x y => x + w * y) s q
theorem updR_get {r C : List Int} {M : Int} {k : Nat} {x y : Int} (hx : r[k]? = some x) (hy : C[k]? = some y) : (updR r C M)[k]? = some (x + (60 * y - M)) := by rw [updR, List.getElem?_zipWith, hx, hy]
theorem updW_get {s q : List Int} {w : Int} {k : Nat} {x y : Int} (hx : s[k]? = some x) (hy : q[k]? = some y) : (updW s q w)[k]? = some (x + w * y) := by rw [updW, List.getElem?_zipWith, hx, hy]
theorem updR_length {r C : List Int} {M : Int} (h : r.length = C.length) : (updR r C M).length = r.length := by rw [updR, List.length_zipWith]; omega
theorem updW_length {s q : List Int} {w : Int} (h : s.length = q.length) : (updW s q w).length = s.length := by rw [updW, List.length_zipWith]; omega
def setN (g : Gm) (pl : Int) (i : Nat) : Nat := (((sets g pl).getD i []).getD 0 0).toNat
def setC (g : Gm) (pl : Int) (i : Nat) : Nat := (((sets g pl).getD i []).getD 1 0).toNat
theorem set_parts {g : Gm} {pl : Int} {i : Nat} (h : i < (sets g pl).length) : (sets g pl)[i]? = some [(setN g pl i : Int), (setC g pl i : Int)] ∧ setN g pl i < g.nd.length ∧ setC g pl i < g.w.length ∧ (g.nd.getD (setN g pl i) nd0).p = pl ∧ sizeAt g pl i = (g.nd.getD (setN g pl i) nd0).ch.length ∧ setI g pl (setN g pl i) (setC g pl i) = i := by
  obtain ⟨n, c, x, h1, h2, h3, h4, h5, h6⟩ := set_elem h
  have e1 : setN g pl i = n := by unfold setN; rw [List.getD_eq_getElem?_getD (l := sets g pl), h1]; simp
  have e2 : setC g pl i = c := by unfold setC; rw [List.getD_eq_getElem?_getD (l := sets g pl), h1]; simp
  have e3 : g.nd.getD n nd0 = x := by rw [List.getD_eq_getElem?_getD, h2]; rfl
  rw [e1, e2, e3]
  refine ⟨h1, h3, h4, h5, h6, ?_⟩
  have hg := sets_get (g := g) (pl := pl) h3 h4 (by rw [e3]; exact h5)
  obtain ⟨n', c', hn', hc', hp', he, _⟩ := sets_find h
  have hg' := sets_get (g := g) (pl := pl) hn' hc' hp'
  rw [← he, h1] at hg'
  simp at hg'
  obtain ⟨a1, a2⟩ := hg'
  have a1 : n = n' := by omega
  have a2 : c = c' := by omega
  rw [a1, a2]; exact he.symm
def rowR (g : Gm) (s t : List (List Int)) (pl : Int) (R : List (List Int)) (i : Nat) : List Int :=
  updR (R.getD i []) (cnts g s t pl (setN g pl i) (setC g pl i)) (meanA ((mineOf pl s t).getD i []) (cnts g s t pl (setN g pl i) (setC g pl i)))
def rowS (g : Gm) (s t : List (List Int)) (pl : Int) (S : List (List Int)) (i : Nat) : List Int :=
  updW (S.getD i []) ((mineOf pl s t).getD i []) (wayP g (mineOf pl s t) pl (setC g pl i) (setN g pl i))
def nextRR (g : Gm) (s t : List (List Int)) (pl : Int) (R : List (List Int)) : List (List Int) := (List.range (sets g pl).length).map (rowR g s t pl R)
def nextSS (g : Gm) (s t : List (List Int)) (pl : Int) (S : List (List Int)) : List (List Int) := (List.range (sets g pl).length).map (rowS g s t pl S)
def posL (l : List Int) : List Int := l.map fun x => max 0 x
def rowP (l : List Int) : List Int := ham (hvd 34 (posL l))
def stM (m : List (List Int)) : List (List Int) := m.map rowP
structure RS where
  r0 : List (List Int)
  r1 : List (List Int)
  s0 : List (List Int)
  s1 : List (List Int)
def stepRS (g : Gm) (x : RS) : RS := ⟨nextRR g (stM x.r0) (stM x.r1) 0 x.r0, nextRR g (stM x.r0) (stM x.r1) 1 x.r1, nextSS g (stM x.r0) (stM x.r1) 0 x.s0, nextSS g (stM x.r0) (stM x.r1) 1 x.s1⟩
def zeroM (g : Gm) (pl : Int) : List (List Int) := (List.range (sets g pl).length).map fun i => List.replicate (sizeAt g pl i) 0
def runRS (g : Gm) : Nat → RS
  | 0 => ⟨zeroM g 0, zeroM g 1, zeroM g 0, zeroM g 1⟩
  | n + 1 => stepRS g (runRS g n)
def okM (g : Gm) (pl : Int) (B : Int) (m : List (List Int)) : Prop := m.length = (sets g pl).length ∧ ∀ i r, m[i]? = some r → r.length = sizeAt g pl i ∧ ∀ x ∈ r, -B ≤ x ∧ x ≤ B
theorem okM_get {g : Gm} {pl B : Int} {m : List (List Int)} (h : okM g pl B m) {i : Nat} (hi : i < (sets g pl).length) : ∃ r, m[i]? = some r ∧ m.getD i [] = r ∧ r.length = sizeAt g pl i ∧ ∀ x ∈ r, -B ≤ x ∧ x ≤ B := by
  have hx : m[i]? = some (m[i]'(by rw [h.1]; exact hi)) := List.getElem?_eq_getElem _
  exact ⟨_, hx, by rw [List.getD_eq_getElem?_getD, hx]; rfl, h.2 i _ hx⟩
theorem okM_range {g : Gm} {pl B : Int} {F : Nat → List Int} (h : ∀ i, i < (sets g pl).length → (F i).length = sizeAt g pl i ∧ ∀ x ∈ F i, -B ≤ x ∧ x ≤ B) : okM g pl B ((List.range (sets g pl).length).map F) := by
  refine ⟨by simp, fun i r hr => ?_⟩
  have hi : i < (sets g pl).length := by have := (List.getElem?_eq_some_iff.1 hr).1; simpa using this
  rw [List.getElem?_map, List.getElem?_range hi, Option.map_some, Option.some.injEq] at hr
  rw [← hr]; exact h i hi
theorem zeroM_ok (g : Gm) (pl : Int) : okM g pl 0 (zeroM g pl) := okM_range fun i _ => ⟨by simp, fun x hx => by rw [List.eq_of_mem_replicate hx]; omega⟩

/-! Bounds. -/
theorem pw_add (a b : Nat) : pw (a + b) = pw a * pw b := by rw [pw, pw, pw, Int.pow_add]
theorem below_spec {g : Gm} (hg : isGameB g = true) {n : Nat} (hn : n < g.nd.length) (h2 : (g.nd.getD n nd0).p ≠ 2) : (wayL g.nd n).length + belowN g n ≤ 4 ∧ dep g.nd g.nd.length n = (belowN g n : Int) + 1 ∧ ∀ k, k ∈ (g.nd.getD n nd0).ch → 0 ≤ k ∧ k.toNat < g.nd.length ∧ dep g.nd g.nd.length k.toNat ≤ belowN g n := by
  obtain ⟨p1, p2, p3, p4, p5⟩ := isGameB_parts hg
  obtain ⟨t1, t2, t3, t4⟩ := isTreeB_spec p1
  have hx : g.nd[n]? = some (g.nd.getD n nd0) := by rw [List.getD_eq_getElem?_getD, List.getElem?_eq_getElem hn]; rfl
  have hch := ndOK_child (t2 n _ hx)
  obtain ⟨F, hF⟩ : ∃ F, g.nd.length = F + 1 := ⟨g.nd.length - 1, by omega⟩
  obtain ⟨d1, d2⟩ := dep_child (l := g.nd) (f := F) (i := n) h2
  rw [← hF] at d1 d2
  have hw := way_dep t2 t3 n n (Nat.le_refl _) hn
  have hb : dep g.nd g.nd.length n = (belowN g n : Int) + 1 := by unfold belowN; omega
  refine ⟨by omega, hb, fun k hk => ?_⟩
  have h1 := hch k hk
  have h3 := d2 k hk
  rw [dep_stable t2 F g.nd.length k.toNat (by omega) (by omega)] at h3
  exact ⟨by omega, by omega, by omega⟩
theorem wAt_bound {g : Gm} (hg : isGameB g = true) (pl : Int) (c o : Nat) : 0 ≤ wAt g pl c o ∧ wAt g pl c o ≤ 9 := by
  obtain ⟨_, _, h3, _⟩ := isGameB_spec hg
  unfold wAt
  split
  · exact w_get h3 c o
  · exact w_get h3 o c
theorem rchW_zero {g : Gm} {s t : List (List Int)} {pl : Int} {n c o : Nat} (h : wAt g pl c o = 0) : rchW g s t pl n c o = 0 := by rw [rchW, h, Int.mul_zero, Int.zero_mul]
theorem ot_ok {g : Gm} {s t : List (List Int)} (hs : partsOK g s 0) (ht : partsOK g t 1) {pl : Int} (hpl : pl = 0 ∨ pl = 1) : partsOK g (mineOf pl s t) pl ∧ partsOK g (otOf pl s t) (1 - pl) := by
  rcases hpl with rfl | rfl
  · exact ⟨hs, ht⟩
  · exact ⟨ht, hs⟩
theorem rchW_abs {g : Gm} (hg : isGameB g = true) {s t : List (List Int)} (hs : partsOK g s 0) (ht : partsOK g t 1) {pl : Int} (hpl : pl = 0 ∨ pl = 1) {n c o : Nat} (hn : n < g.nd.length) (ho : o < g.w.length) :
    -(9 * pw (wayL g.nd n).length) ≤ rchW g s t pl n c o ∧ rchW g s t pl n c o ≤ 9 * pw (wayL g.nd n).length := by
  obtain ⟨p1, p2, p3, p4, p5⟩ := isGameB_parts hg
  obtain ⟨t1, t2, t3, t4⟩ := isTreeB_spec p1
  obtain ⟨w1, w2⟩ := wAt_bound hg pl c o
  obtain ⟨b1, b2⟩ := wayP_bound (c := o) t2 t3 (ot_ok hs ht hpl).2 ho n n (Nat.le_refl _) hn
  have hm : wAt g pl c o * wayP g (otOf pl s t) (1 - pl) o n ≤ 9 * pw (wayL g.nd n).length := Int.mul_le_mul w2 b2 b1 (by decide)
  have hm0 := Int.mul_nonneg w1 b1
  unfold rchW sgn
  split
  · rw [Int.one_mul]; omega
  · rw [Int.neg_one_mul, Int.neg_mul]; omega
theorem abs_mul {x y a b : Int} (hx : -a ≤ x ∧ x ≤ a) (hy : -b ≤ y ∧ y ≤ b) : -(a * b) ≤ x * y ∧ x * y ≤ a * b := by
  have hb : 0 ≤ b := by omega
  rcases Int.le_total 0 x with h | h
  · obtain ⟨m1, m2⟩ := mul_abs h hy.1 hy.2
    have m3 : b * x ≤ b * a := Int.mul_le_mul_of_nonneg_left hx.2 hb
    rw [Int.mul_comm a b]; omega
  · obtain ⟨m1, m2⟩ := mul_abs (x := -x) (by omega) hy.1 hy.2
    have m3 : b * -x ≤ b * a := Int.mul_le_mul_of_nonneg_left (by omega) hb
    rw [Int.neg_mul] at m1 m2
    rw [Int.mul_comm a b]; omega
theorem vAt_abs {g : Gm} (hg : isGameB g = true) {s t : List (List Int)} (hs : partsOK g s 0) (ht : partsOK g t 1) {pl : Int} {k c o p : Nat} (hc : c < g.w.length) (ho : o < g.w.length) (hk : k < g.nd.length) (hd : dep g.nd g.nd.length k ≤ p) : -(100 * pw p) ≤ vAt g s t pl k c o p ∧ vAt g s t pl k c o p ≤ 100 * pw p := by
  obtain ⟨p1, p2, p3, p4, p5⟩ := isGameB_parts hg
  obtain ⟨t1, t2, t3, t4⟩ := isTreeB_spec p1
  unfold vAt
  split
  · exact val_abs t2 hs ht hc ho _ _ _ hk hd
  · exact val_abs t2 hs ht ho hc _ _ _ hk hd
theorem pw_le4 {p : Nat} (h : p ≤ 4) : 1 ≤ pw p ∧ pw p ≤ 12960000 := by
  have : p = 0 ∨ p = 1 ∨ p = 2 ∨ p = 3 ∨ p = 4 := by omega
  rcases this with rfl | rfl | rfl | rfl | rfl <;> decide
theorem cntF_abs {g : Gm} (hg : isGameB g = true) {s t : List (List Int)} (hs : partsOK g s 0) (ht : partsOK g t 1) {pl : Int} (hpl : pl = 0 ∨ pl = 1) {n c o : Nat} (hn : n < g.nd.length) (h2 : (g.nd.getD n nd0).p ≠ 2) (hc : c < g.w.length) (ho : o < g.w.length) {k : Int} (hk : k ∈ (g.nd.getD n nd0).ch) :
    -11664000000 ≤ cntF g s t pl n c k.toNat o ∧ cntF g s t pl n c k.toNat o ≤ 11664000000 := by
  obtain ⟨e1, e2, e3⟩ := below_spec hg hn h2
  obtain ⟨k1, k2, k3⟩ := e3 k hk
  have h := abs_mul (rchW_abs (c := c) hg hs ht hpl hn ho) (vAt_abs (pl := pl) hg hs ht hc ho k2 k3)
  have hp : 9 * pw (wayL g.nd n).length * (100 * pw (belowN g n)) = 900 * pw ((wayL g.nd n).length + belowN g n) := by
    rw [pw_add]; grind
  have hq := pw_le4 e1
  rw [hp] at h
  unfold cntF; omega
theorem cntN_abs {g : Gm} (hg : isGameB g = true) {s t : List (List Int)} (hs : partsOK g s 0) (ht : partsOK g t 1) {pl : Int} (hpl : pl = 0 ∨ pl = 1) {n c : Nat} (hn : n < g.nd.length) (h2 : (g.nd.getD n nd0).p ≠ 2) (hc : c < g.w.length) {k : Int} (hk : k ∈ (g.nd.getD n nd0).ch) {m : Nat} (hm : m ≤ g.w.length) :
    -69984000000 ≤ cntN g s t pl n c k.toNat m ∧ cntN g s t pl n c k.toNat m ≤ 69984000000 := by
  obtain ⟨p1, p2, p3, p4, p5⟩ := isGameB_parts hg
  have h := sumI_range_abs (G := cntF g s t pl n c k.toNat) (n := m) (c := 11664000000) fun o ho => cntF_abs hg hs ht hpl hn h2 hc (by omega) hk
  unfold cntN; omega
theorem cnts_abs {g : Gm} (hg : isGameB g = true) {s t : List (List Int)} (hs : partsOK g s 0) (ht : partsOK g t 1) {pl : Int} (hpl : pl = 0 ∨ pl = 1) {n c : Nat} (hn : n < g.nd.length) (h2 : (g.nd.getD n nd0).p ≠ 2) (hc : c < g.w.length) : ∀ y ∈ cnts g s t pl n c, -69984000000 ≤ y ∧ y ≤ 69984000000 := by
  intro y hy
  obtain ⟨k, hk, rfl⟩ := List.mem_map.1 hy
  exact cntN_abs hg hs ht hpl hn h2 hc hk (Nat.le_refl _)
theorem meanP_abs {q C : List Int} (hq : ∀ x ∈ q, 0 ≤ x ∧ x ≤ 60) (hC : ∀ y ∈ C, -69984000000 ≤ y ∧ y ≤ 69984000000) : ∀ k, -(k * 4199040000000) ≤ meanP q C k ∧ meanP q C k ≤ k * 4199040000000
  | 0 => by simp [meanP, sumI]
  | k + 1 => by
    have ih := meanP_abs hq hC k
    cases hx : q[k]? with
    | none =>
      have : meanP q C (k + 1) = meanP q C k := by
        unfold meanP
        have h : (List.zipWith (fun x y => x * y) q C)[k]? = none := by rw [List.getElem?_zipWith, hx]
        rw [List.take_add_one, h]; simp
      rw [this]; omega
    | some x =>
      cases hy : C[k]? with
      | none =>
        have : meanP q C (k + 1) = meanP q C k := by
          unfold meanP
          have h : (List.zipWith (fun x y => x * y) q C)[k]? = none := by rw [List.getElem?_zipWith, hx, hy]
          rw [List.take_add_one, h]; simp
        rw [this]; omega
      | some y =>
        rw [meanP_succ hx hy]
        have h1 := hq x (List.mem_of_getElem? hx)
        have h2 := hC y (List.mem_of_getElem? hy)
        obtain ⟨m1, m2⟩ := mul_abs h1.1 h2.1 h2.2
        omega
end Go.Ab

/- Contracts: where a number stands first; products along a way. -/
set_option linter.unusedSimpArgs false
set_option linter.unusedVariables false
namespace Go.Ab
open Go.Proofs
theorem slices_IndexX_ok (r : List Int) (hr : r.length ≤ 1000000) (x : Int) (hx : x ∈ r) : Pure Try.prog 117 [ints r, .i x] (.i (ixOf x r : Nat)) := by
  refine fun_slices_Index___int64_int64_ (by simp) ?_
  simp -implicitDefEqProofs only [go_sem, evR, ints, rows, rat, rats, c_slices_Index___int64_int64_]
  refine SemC.loopR (σ := Nat) (fun i => St.of [(0, .t (ints r)), (1, .t (.i x)), (7, .t (.i r.length)), (8, .t (.i i))] []) (fun i => i ≤ ixOf x r) (fun i => r.length - i) 0 (Weak.of _ [] [] (by simp) (by simp) ?_ trivial) (by omega) fun i hi R hn hr' he => ?_
  · simp -implicitDefEqProofs only [ints, rows, Nat.reduceBEq, wkR, Nat.reduceEqDiff, ↓reduceIte, wrR]
  · simp -implicitDefEqProofs only [go_sem, evR, ints, rows, rat, rats]
    have hg := ixOf_get hx
    have hml := (List.getElem?_eq_some_iff.1 hg).1
    refine ⟨fun h => ⟨by omega, by omega, by omega, fun y hy => ⟨fun hc => hr' _ ?_, fun hc => ?_⟩⟩, fun h => by omega⟩
    · have hc : x = y := by simpa using hc
      have e : i = ixOf x r := by
        have := ixOf_le (hc ▸ hy : r[i]? = some x)
        omega
      simp -implicitDefEqProofs only [go_sem, evR, ints, rows, rat, rats]
      rw [← e]
    · have hne : i ≠ ixOf x r := by
        intro e
        rw [← e, hy] at hg
        injection hg with hg
        simp [hg] at hc
      refine hn _ (i + 1) (Weak.of _ [] [] (by simp) (by simp) ?_ trivial) (by omega) (by omega)
      simp -implicitDefEqProofs only [ints, rows, Nat.reduceBEq, wkR, Nat.reduceEqDiff, ↓reduceIte, wrR, next64 (by omega : i < r.length) (by omega)]
end Go.Ab

/- Contracts: ways, and products along them. -/
set_option linter.unusedSimpArgs false
set_option linter.unusedVariables false
namespace Go.Ab
open Go.Proofs
section
attribute [-go_sem] load1C load1V fldC lenC idxC loadNV nilCheckW
set_option maxRecDepth 20000 in
theorem spec_l20Way_ok {l : List Nd} (h : ndsOK l) (ho : occOK l) (hl : l.length ≤ 60) : ∀ (f n : Nat), n ≤ f → n < l.length → Fun Try.prog 225 [] [.t (.agg [.sh 5 (chunk nodeC l)]), .t (.i n)] fun o r => o = [] ∧ r = intsO (wayL l n) := by
  intro f
  induction f with
  | zero =>
    intro n h1 hn
    obtain rfl : n = 0 := by omega
    refine fun_spec_l20Way (by simp) ?_
    simp -implicitDefEqProofs only [go_sem, evR, ints, rows, rat, rats, c_spec_l20Way, nodes, show (((0 : Nat) : Int) == 0) = true from rfl]
    rfl
  | succ f ih =>
    intro n h1 hn
    by_cases hz : n = 0
    · subst hz
      refine fun_spec_l20Way (by simp) ?_
      simp -implicitDefEqProofs only [go_sem, evR, ints, rows, rat, rats, c_spec_l20Way, nodes, show (((0 : Nat) : Int) == 0) = true from rfl]
      rfl
    · have hu := up_lt h ho (by omega) hn
      have hpg := plc_get h ho (by omega) hn
      have hku := kid_up h ho (j := n) (by omega) hn
      have hwu := way_up h ho (j := n) (by omega) hn
      have hpl := (List.getElem?_eq_some_iff.1 hpg).1
      refine fun_spec_l20Way (by simp) ?_
      simp -implicitDefEqProofs only [go_sem, evR, ints, rows, rat, rats, c_spec_l20Way, nodes, show ((n : Int) == 0) = false by simp; omega]
      refine SemC.loopR (σ := Nat) (fun i => St.of [(1, .t (.i n)), (2, .own 2), (5, .t (.i i))] [(2, .box [nodes l])]) (fun i => i ≤ upN l n) (fun i => n - i) 0 (Weak.of _ _ [some 2] (by simp) (by simp) ?_ ?_) (by omega) fun i hi R hn1 hr he => ?_
      · simp -implicitDefEqProofs only [ints, rows, Nat.reduceBEq, wkR, Nat.reduceEqDiff, ↓reduceIte, wrR, nodes]
      · exact ⟨⟨_, rfl, .refl _⟩, rfl, trivial⟩
      obtain ⟨x, hx⟩ : ∃ x, l[i]? = some x := ⟨_, List.getElem?_eq_getElem (by omega)⟩
      have hxd : l.getD i nd0 = x := by rw [List.getD_eq_getElem?_getD, hx]; rfl
      have hxl := (ndOK_fields (h _ _ hx)).2.2.2.2.2
      simp -implicitDefEqProofs only [go_sem, evR, ints, rows, rat, rats, nodes, decide_eq_true (show (i : Int) < (n : Int) by omega)]
      refine SemC.loopR (σ := Nat) (fun k => St.of [(1, .t (.i n)), (2, .own 2), (5, .t (.i i)), (6, .t (.i k))] [(2, .box [nodes l])]) (fun k => k ≤ x.ch.length ∧ (i = upN l n → k ≤ plc l n)) (fun k => x.ch.length - k) 0 (Weak.of _ _ [some 2] (by simp) (by simp) ?_ ?_) ⟨by omega, fun _ => by omega⟩ fun k hk R2 hn2 hr2 he2 => ?_
      · simp -implicitDefEqProofs only [ints, rows, Nat.reduceBEq, wkR, Nat.reduceEqDiff, ↓reduceIte, wrR, nodes]
      · exact ⟨⟨_, rfl, .refl _⟩, rfl, trivial⟩
      rcases Nat.lt_or_ge k x.ch.length with h9 | h9
      · obtain ⟨y, hy⟩ : ∃ y, x.ch[k]? = some y := ⟨_, List.getElem?_eq_getElem h9⟩
        by_cases hyn : y = n
        · have hki : isKid l i n := kid_of_mem h (by omega) (by rw [hxd]; exact hyn ▸ List.mem_of_getElem? hy)
          have hiu : i = upN l n := (upN_eq h ho hki).symm
          have hkp : k = plc l n := by
            have a := hk.2 hiu
            have b : plc l n ≤ k := ixOf_le (by rw [← hiu, hxd, hy, hyn])
            omega
          have hp := ih i (by omega) (by omega)
          simp only [intsO] at hp
          simp -implicitDefEqProofs only [go_sem, evR, ints, rows, rat, rats, nodes, nd_get4 hx, hy, decide_eq_true (show (k : Int) < (x.ch.length : Int) by omega), show (y == (n : Int)) = true by simp [hyn]]
          repeat (first | refine ⟨by omega, ?_⟩ | refine ⟨by rw [nd_len]; omega, ?_⟩)
          have hwd := way_dep h ho i i (Nat.le_refl _) (by omega)
          have hd0 := (dep_nonneg (l := l) l.length 0).2
          have hdi := (dep_nonneg (l := l) l.length i).1
          refine CallW.res hp [] rfl Try.call225 ?_ (.inl rfl) ?_
          · simp -implicitDefEqProofs only [agR, Nat.reduceLeDiff, Nat.reduceSub, vaR, go_sem, ints, rows, rat, rats, ratsO, rtR, intsO, rowsO]
          simp -implicitDefEqProofs only [clR, Nat.reduceLeDiff, go_sem, evR, rat]
          refine ⟨by omega, hr2 _ (hr _ ?_)⟩
          simp -implicitDefEqProofs only [go_sem, evR, ints, rows, rat, rats]
          rw [hwu, ← hiu, ← hkp, intsO, List.map_append]
          rfl
        · simp -implicitDefEqProofs only [go_sem, evR, ints, rows, rat, rats, nodes, nd_get4 hx, hy, decide_eq_true (show (k : Int) < (x.ch.length : Int) by omega), show (y == (n : Int)) = false by simp [hyn]]
          repeat (first | refine ⟨by omega, ?_⟩ | refine ⟨by rw [nd_len]; omega, ?_⟩)
          refine hn2 _ (k + 1) (Weak.of _ _ [some 2] (by simp) (by simp) ?_ ?_) ⟨by omega, fun e => ?_⟩ (by omega)
          · simp -implicitDefEqProofs only [ints, rows, Nat.reduceBEq, wkR, Nat.reduceEqDiff, ↓reduceIte, wrR, nodes, next64 h9 (by omega)]
          · exact ⟨⟨_, rfl, .refl _⟩, rfl, trivial⟩
          · have a := hk.2 e
            rcases Nat.lt_or_ge k (plc l n) with b | b
            · omega
            · have : k = plc l n := by omega
              rw [← e, hxd, ← this, hy] at hpg
              injection hpg with hpg
              exact absurd hpg hyn
      · simp -implicitDefEqProofs only [go_sem, evR, ints, rows, rat, rats, nodes, nd_get4 hx, decide_eq_false (show ¬ (k : Int) < (x.ch.length : Int) by omega)]
        repeat (first | refine ⟨by omega, ?_⟩ | refine ⟨by rw [nd_len]; omega, ?_⟩)
        refine he2 _ _ ?_
        simp -implicitDefEqProofs only [go_sem, evR, ints, rows, rat, rats]
        have hne : i ≠ upN l n := fun e => by
          have a := hk.2 e
          rw [← e, hxd] at hpl
          omega
        refine hn1 _ (i + 1) (Weak.of _ _ [some 2] (by simp) (by simp) ?_ ?_) (by omega) (by omega)
        · simp -implicitDefEqProofs only [ints, rows, Nat.reduceBEq, wkR, Nat.reduceEqDiff, ↓reduceIte, wrR, nodes, next64 (show i < l.length by omega) (by omega)]
        · exact ⟨⟨_, rfl, .refl _⟩, rfl, trivial⟩
set_option maxRecDepth 20000 in
theorem spec_l25Parts_ok {g : Gm} (hg : isGameB g = true) {S : List (List Int)} {pl : Int} (hpl : pl = 0 ∨ pl = 1) (hS : partsOK g S pl) {c n : Nat} (hc : c < g.w.length) (hn : n < g.nd.length) : Pure Try.prog 209 [.agg [.sh 5 (chunk nodeC g.nd), .sh 1 (g.w.map ints), .sh 1 (g.v.map ints)], .agg [.i pl, .sh 1 (S.map ints)], .i n, .i c] (.i (wayP g S pl c n)) := by
  obtain ⟨p1, p2, p3, p4, p5⟩ := isGameB_parts hg
  obtain ⟨t1, t2, t3, t4⟩ := isTreeB_spec p1
  obtain ⟨a1, a2, a3, a4⟩ := anc_spec t2 t3 n n (Nat.le_refl _) hn
  have hwd := way_dep t2 t3 n n (Nat.le_refl _) hn
  have hdn := (dep_nonneg (l := g.nd) g.nd.length n).1
  refine fun_spec_l25Parts (by simp) ?_
  simp -implicitDefEqProofs only [go_sem, evR, ints, rows, rat, rats, c_spec_l25Parts]
  have hp := spec_l20Way_ok t2 t3 t1.2 n n (Nat.le_refl _) hn
  simp only [intsO] at hp
  refine CallW.res hp [] rfl Try.call225 ?_ (.inl rfl) ?_
  · simp -implicitDefEqProofs only [agR, Nat.reduceLeDiff, Nat.reduceSub, vaR, go_sem, ints, rows, rat, rats, ratsO, rtR, intsO, rowsO]
  simp -implicitDefEqProofs only [clR, Nat.reduceLeDiff, go_sem, evR, rat]
  refine SemC.loopR (σ := Nat × Nat) (fun s => St.of [(3, .t (.i c)), (4, .own 4), (5, .own 5), (9, .own 16), (10, .t (.i s.2)), (11, .t (.i (wayP g S pl c s.2))), (12, .t (.i s.1))] [(4, .box [nodes g.nd, rows g.w, rows g.v]), (5, .box [.i pl, rows S]), (16, intsO (wayL g.nd n))]) (fun s => s.1 ≤ (wayL g.nd n).length ∧ (ancL g.nd n)[s.1]? = some s.2 ∧ s.2 < g.nd.length) (fun s => (wayL g.nd n).length - s.1) (0, 0) (Weak.of _ _ [some 4, some 5, some 16] (by simp) (by simp) ?_ ?_) ⟨by omega, a2, by omega⟩ fun s hI R hn1 hr he => ?_
  · simp -implicitDefEqProofs only [ints, rows, Nat.reduceBEq, wkR, Nat.reduceEqDiff, ↓reduceIte, wrR, nodes, wayP_zero]
  · exact ⟨⟨_, rfl, .refl _⟩, rfl, ⟨_, rfl, .refl _⟩, rfl, ⟨_, rfl, .refl _⟩, rfl, trivial⟩
  obtain ⟨i, u⟩ := s
  obtain ⟨hi, hau, hul⟩ := hI
  (try simp only [] at hi hau hul)
  (try simp only [])
  rcases Nat.lt_or_ge i (wayL g.nd n).length with h9 | h9
  · obtain ⟨m, m1, m2, m3, m4, m5⟩ := a4 i h9
    have hum : u = upN g.nd m := by rw [hau] at m4; exact Option.some.inj m4
    obtain ⟨x, hx⟩ : ∃ x, g.nd[u]? = some x := ⟨_, List.getElem?_eq_getElem hul⟩
    have hxd : g.nd.getD u nd0 = x := by rw [List.getD_eq_getElem?_getD, hx]; rfl
    have hku := kid_up t2 t3 m2 m3
    have hpg := plc_get t2 t3 m2 m3
    rw [← hum, hxd] at hpg
    have hwp := wayP_up (S := S) (pl := pl) (c := c) t2 t3 m2 m3
    rw [← hum, hxd] at hwp
    obtain ⟨b1, b2⟩ := wayP_bound t2 t3 hS hc m m (Nat.le_refl _) m3
    have hwm := way_dep t2 t3 m m (Nat.le_refl _) m3
    have hdm := (dep_nonneg (l := g.nd) g.nd.length m).1
    have hpw := pw_le5 (p := (wayL g.nd m).length) (by omega)
    by_cases hxp : x.p = pl
    · have hpd : (g.nd.getD u nd0).p = pl := by rw [hxd]; exact hxp
      have hrow := partsOK_row t2 (by omega) hS hul hc hpd
      have hrl := (hS u c hul hc hpd).1
      have hrl2 := (List.getElem?_eq_some_iff.1 hrow).1
      rw [hxd] at hrl
      have hpl1 := (List.getElem?_eq_some_iff.1 hpg).1
      obtain ⟨y, hy⟩ : ∃ y, (partsOf g S pl u c)[plc g.nd m]? = some y := ⟨_, List.getElem?_eq_getElem (by omega)⟩
      rw [if_pos hxp, List.getD_eq_getElem?_getD, hy, Option.getD_some] at hwp
      simp -implicitDefEqProofs only [go_sem, evR, ints, rows, rat, rats, nodes, intsO, nd_get0 hx, m5, decide_eq_true (show (i : Int) < ((wayL g.nd n).length : Int) by omega), show (x.p == pl) = true by simp [hxp]]
      repeat (first | refine ⟨by omega, ?_⟩ | refine ⟨by rw [nd_len]; omega, ?_⟩)
      refine CallV.pure (l23Set_t hg hul hpd hc) [] rfl Try.call221 (fun e R' hR => ?_) (by first | trivial | simp [T.noSh, T.noShL, rat]) (fun _ => rfl) ?_
      · simp -implicitDefEqProofs only [agR, Nat.reduceLeDiff, Nat.reduceSub, vaR, go_sem, ints, rows, rat, rats, ratsO, rtR, intsO, rowsO]
      simp -implicitDefEqProofs only [go_sem, evR, ints, rows, rat, rats, nodes, intsO, hrow, m5, hy, nd_get4 hx, hpg]
      repeat (first | refine ⟨by omega, ?_⟩ | refine ⟨by rw [nd_len]; omega, ?_⟩)
      refine hn1 _ (i + 1, m) (Weak.of _ _ [some 4, some 5, some 16] (by simp) (by simp) ?_ ?_) ⟨by show i + 1 ≤ _; omega, m1, m3⟩ (by show _ - (i + 1) < _ - i; omega)
      · simp -implicitDefEqProofs only [ints, rows, Nat.reduceBEq, wkR, Nat.reduceEqDiff, ↓reduceIte, wrR, nodes, next64 h9 (by omega), ← hwp, wrap64 (n := wayP g S pl c m) (by omega) (by omega)]
      · exact ⟨⟨_, rfl, .refl _⟩, rfl, ⟨_, rfl, .refl _⟩, rfl, ⟨_, rfl, .refl _⟩, rfl, trivial⟩
    · rw [if_neg hxp, Int.mul_one] at hwp
      have hpl1 := (List.getElem?_eq_some_iff.1 hpg).1
      simp -implicitDefEqProofs only [go_sem, evR, ints, rows, rat, rats, nodes, intsO, nd_get0 hx, nd_get4 hx, hpg, m5, decide_eq_true (show (i : Int) < ((wayL g.nd n).length : Int) by omega), show (x.p == pl) = false by simp [hxp]]
      repeat (first | refine ⟨by omega, ?_⟩ | refine ⟨by rw [nd_len]; omega, ?_⟩)
      refine hn1 _ (i + 1, m) (Weak.of _ _ [some 4, some 5, some 16] (by simp) (by simp) ?_ ?_) ⟨by show i + 1 ≤ _; omega, m1, m3⟩ (by show _ - (i + 1) < _ - i; omega)
      · simp -implicitDefEqProofs only [ints, rows, Nat.reduceBEq, wkR, Nat.reduceEqDiff, ↓reduceIte, wrR, nodes, next64 h9 (by omega), hwp]
      · exact ⟨⟨_, rfl, .refl _⟩, rfl, ⟨_, rfl, .refl _⟩, rfl, ⟨_, rfl, .refl _⟩, rfl, trivial⟩
  · have hil : i = (wayL g.nd n).length := by omega
    have hun : u = n := by rw [hil, a3] at hau; exact (Option.some.inj hau).symm
    simp -implicitDefEqProofs only [go_sem, evR, ints, rows, rat, rats, nodes, intsO, decide_eq_false (show ¬ (i : Int) < ((wayL g.nd n).length : Int) by omega)]
    refine he _ _ ?_
    simp -implicitDefEqProofs only [go_sem, evR, ints, rows, rat, rats]
    rw [hun]
set_option maxRecDepth 20000 in
theorem impl_wayProduct_ok {g : Gm} {s t : List (List Int)} (hg : isGameB g = true) (hs : partsOK g s 0) (ht : partsOK g t 1) {pl : Int} (hpl : pl = 0 ∨ pl = 1) {n a b : Nat} (hn : n < g.nd.length) (ha : a < g.w.length) (hb : b < g.w.length) :
    Pure Try.prog 226 [.pin [.sh 5 (chunk nodeC g.nd), .sh 1 (g.w.map ints), .sh 1 (g.v.map ints), .sh 1 ((ownL g 0).map T.i), .sh 1 ((ownL g 1).map T.i), .sh 1 (s.map ints), .sh 1 (t.map ints), .sh 1 ((parN g.nd g.nd.length).map T.i)] 0, .i n, .i pl, .i a, .i b] (.i (wayP g (mineOf pl s t) pl (if pl = 0 then a else b) n)) := by
  obtain ⟨p1, p2, p3, p4, p5⟩ := isGameB_parts hg
  obtain ⟨t1, t2, t3, t4⟩ := isTreeB_spec p1
  have hm := (ot_ok hs ht hpl).1
  have hcc : (if pl = 0 then a else b) < g.w.length := by split <;> assumption
  have hrow : ∀ u, (g.nd.getD u nd0).p = pl → chP g s t u a b = partsOf g (mineOf pl s t) pl u (if pl = 0 then a else b) := fun u hu => by
    unfold chP mineOf
    rcases hpl with rfl | rfl
    · rw [if_pos hu, if_pos rfl, if_pos rfl]
    · rw [if_neg (by omega), if_neg (by omega), if_neg (by omega)]
  generalize (if pl = 0 then a else b) = c at hcc hrow ⊢
  generalize hS : mineOf pl s t = S at hm hrow ⊢
  have hwn := way_dep t2 t3 n n (Nat.le_refl _) hn
  have hdn := (dep_nonneg (l := g.nd) g.nd.length n).1
  refine fun___impl_evaluator__wayProduct (by simp) ?_
  simp -implicitDefEqProofs only [go_sem, evR, ints, rows, rat, rats, c___impl_evaluator__wayProduct]
  refine SemC.loopR (σ := Nat × Int) (fun q => St.of [(0, .t (.pin (evL g s t) 0)), (1, .t (.i q.1)), (2, .t (.i pl)), (3, .t (.i a)), (4, .t (.i b)), (11, .t (.i q.2))] []) (fun q => q.1 < g.nd.length ∧ q.2 * wayP g S pl c q.1 = wayP g S pl c n ∧ ∃ d, (wayL g.nd q.1).length + d ≤ (wayL g.nd n).length ∧ 0 ≤ q.2 ∧ q.2 ≤ pw d) (fun q => q.1) (n, 1) (Weak.of _ [] [] (by simp) (by simp) ?_ trivial) ⟨hn, by show (1 : Int) * _ = _; rw [Int.one_mul], 0, by show (wayL g.nd n).length + 0 ≤ _; omega, by show (0 : Int) ≤ 1; decide, by show (1 : Int) ≤ pw 0; decide⟩ fun q hI R hn1 hr he => ?_
  · simp -implicitDefEqProofs only [ints, rows, Nat.reduceBEq, wkR, Nat.reduceEqDiff, ↓reduceIte, wrR, evL, nodes]
  obtain ⟨j, z⟩ := q
  obtain ⟨hj, hz, d, hd, z0, z1⟩ := hI
  (try simp only [] at hj hz hd z0 z1)
  (try simp only [])
  by_cases hj0 : j = 0
  · subst hj0
    rw [wayP_zero, Int.mul_one] at hz
    simp -implicitDefEqProofs only [go_sem, evR, ints, rows, rat, rats, decide_eq_false (show ¬ ((0 : Nat) : Int) > 0 by omega)]
    refine he _ _ ?_
    simp -implicitDefEqProofs only [go_sem, evR, ints, rows, rat, rats]
    rw [hz]
  · have hku := kid_up t2 t3 (j := j) (by omega) hj
    have huj := up_lt t2 t3 (j := j) (by omega) hj
    have hup := parN_up t2 t3 (j := j) (by omega) hj
    have hpg := plc_get t2 t3 (j := j) (by omega) hj
    have hwp := wayP_up (S := S) (pl := pl) (c := c) t2 t3 (j := j) (by omega) hj
    have hwu := way_up t2 t3 (j := j) (by omega) hj
    have hpl2 := parN_length g.nd g.nd.length
    rw [hwu, List.length_append, List.length_cons, List.length_nil] at hd
    have hplc : plc g.nd j = ixOf (j : Int) (g.nd.getD (upN g.nd j) nd0).ch := rfl
    generalize upN g.nd j = u at hku huj hup hpg hwp hwu hd hplc
    obtain ⟨x, hx⟩ : ∃ x, g.nd[u]? = some x := ⟨_, List.getElem?_eq_getElem hku.1⟩
    have hxd : g.nd.getD u nd0 = x := by rw [List.getD_eq_getElem?_getD, hx]; rfl
    have hxl := (ndOK_fields (t2 _ _ hx)).2.2.2.2.2
    rw [hxd] at hpg hwp hplc
    have hpl1 := (List.getElem?_eq_some_iff.1 hpg).1
    by_cases hxp : x.p = pl
    · have hpd : (g.nd.getD u nd0).p = pl := by rw [hxd]; exact hxp
      have hc2 := hrow u hpd
      have hb2 := part_bound hm hku.1 hcc hpd (plc g.nd j)
      have hrl := (hm u c hku.1 hcc hpd).1
      rw [hxd] at hrl
      obtain ⟨y, hy⟩ : ∃ y, (partsOf g S pl u c)[plc g.nd j]? = some y := ⟨_, List.getElem?_eq_getElem (by omega)⟩
      rw [if_pos hxp, List.getD_eq_getElem?_getD, hy, Option.getD_some] at hwp
      rw [List.getD_eq_getElem?_getD, hy, Option.getD_some] at hb2
      have hmem : (j : Int) ∈ x.ch := List.mem_of_getElem? hpg
      have hix := slices_IndexX_ok x.ch (by omega) (j : Int) hmem
      have zb : z * y ≤ pw d * 60 := Int.mul_le_mul z1 hb2.2 hb2.1 (by have := pw_pos d; omega)
      have zc := Int.mul_nonneg z0 hb2.1
      have hpw := pw_le5 (p := d + 1) (by omega)
      rw [pw_succ] at hpw
      have hpa := partsAt_t hg hs ht (i := u) (a := a) (b := b) hku.1 ha hb (by omega)
      rw [hc2] at hpa
      simp -implicitDefEqProofs only [go_sem, evR, ints, rows, rat, rats, evL, nodes, hup, nd_get0 hx, hpl2, decide_eq_true (show (j : Int) > 0 by omega), show (x.p == pl) = true by simp [hxp]]
      repeat (first | refine ⟨by omega, ?_⟩ | refine ⟨by rw [nd_len]; omega, ?_⟩)
      refine CallH.ref hpa [] [] rfl Try.call214 (by simp) ?_ (by simp) (fun e R' hR => ?_) (.inl rfl) ?_
      · simp -implicitDefEqProofs only [srR, Nat.reduceEqDiff, ↓reduceIte, ints, rows, intsO, rowsO]
      · simp -implicitDefEqProofs only [agR, Nat.reduceLeDiff, Nat.reduceSub, vaR, go_sem, ints, rows, rat, rats, ratsO, rtR, intsO, rowsO]
      simp -implicitDefEqProofs only [clR, Nat.reduceLeDiff, go_sem, evR, rat, evL, nodes, rows, ints, nd_get4 hx]
      repeat (first | refine ⟨by omega, ?_⟩ | refine ⟨by rw [nd_len]; omega, ?_⟩)
      rw [← hplc] at hix
      refine CallV.pure hix [] rfl Try.call117 (fun e R' hR => ?_) (by first | trivial | simp [T.noSh, T.noShL, rat]) (fun _ => rfl) ?_
      · simp -implicitDefEqProofs only [agR, Nat.reduceLeDiff, Nat.reduceSub, vaR, go_sem, ints, rows, rat, rats, ratsO, rtR, intsO, rowsO]
      simp -implicitDefEqProofs only [go_sem, evR, ints, rows, rat, rats, hy]
      repeat (first | refine ⟨by omega, ?_⟩ | refine ⟨by rw [nd_len]; omega, ?_⟩)
      refine hn1 _ (u, z * y) (Weak.of _ [] [] (by simp) (by simp) ?_ trivial) ⟨hku.1, by show z * y * wayP g S pl c u = _; rw [← hz, hwp, Int.mul_assoc, Int.mul_comm y], d + 1, by show (wayL g.nd u).length + (d + 1) ≤ _; omega, zc, by show z * y ≤ pw (d + 1); rw [pw_succ]; omega⟩ (by show u < j; omega)
      simp -implicitDefEqProofs only [ints, rows, Nat.reduceBEq, wkR, Nat.reduceEqDiff, ↓reduceIte, wrR, evL, nodes, wrap64 (n := z * y) (by omega) (by omega)]
    · rw [if_neg hxp, Int.mul_one] at hwp
      simp -implicitDefEqProofs only [go_sem, evR, ints, rows, rat, rats, evL, nodes, hup, nd_get0 hx, hpl2, decide_eq_true (show (j : Int) > 0 by omega), show (x.p == pl) = false by simp [hxp]]
      repeat (first | refine ⟨by omega, ?_⟩ | refine ⟨by rw [nd_len]; omega, ?_⟩)
      refine hn1 _ (u, z) (Weak.of _ [] [] (by simp) (by simp) ?_ trivial) ⟨hku.1, by rw [← hwp]; exact hz, d, by show (wayL g.nd u).length + d ≤ _; omega, z0, z1⟩ (by show u < j; omega)
      simp -implicitDefEqProofs only [ints, rows, Nat.reduceBEq, wkR, Nat.reduceEqDiff, ↓reduceIte, wrR, evL, nodes]
end
end Go.Ab

/- Contracts: copies of strategies; responses in turn; claims made and joined. -/
set_option linter.unusedSimpArgs false
set_option linter.unusedVariables false
namespace Go.Ab
open Go.Proofs

section
attribute [-go_sem] load1C load1V fldC lenC idxC loadNV nilCheckW
theorem stZ_le : Le (.agg [.i 0, .v (.slice none 0 0)]) (.agg [.i 0, rowsO []]) := .agg rfl fun i h h' => by
  match i with
  | 0 => exact .refl _
  | 1 => exact .nilArr 1
def ritO (r : (Int × List (List Int)) × (Int × List (List Int)) × Int) : T := .tup [.agg [.i r.1.1, rowsO r.1.2], .agg [.i r.2.1.1, rowsO r.2.1.2], .i r.2.2]
theorem ritO_noSh (r : (Int × List (List Int)) × (Int × List (List Int)) × Int) : (ritO r).noSh := ⟨⟨trivial, rowsO_noSh _, trivial⟩, ⟨trivial, rowsO_noSh _, trivial⟩, trivial, trivial⟩
end
end Go.Ab

/- The bridge, part 5: bytes. -/
set_option linter.unusedSimpArgs false
set_option linter.unusedVariables false
namespace Go.Ab

def bytes (cs : List Int) : T := .sh 1 (cs.map fun x => .v (.int .u8 x))
end Go.Ab

/- Contracts: the source of drawn numbers. -/
set_option linter.unusedSimpArgs false
set_option linter.unusedVariables false
namespace Go.Ab
open Go.Proofs

def seedOK (a : Nat × Int) : Prop := 0 ≤ a.2 ∧ a.2 < 2147483647 ∧ a.1 ≤ 1000000000000
end Go.Ab

/- Contracts: the shape of drawn trees. -/
set_option linter.unusedSimpArgs false
set_option linter.unusedVariables false
namespace Go.Ab
open Go.Proofs
def LeL (l l' : List T) : Prop := l.length = l'.length ∧ ∀ i (h : i < l.length) (h' : i < l'.length), Le l[i] l'[i]
theorem LeL.refl (l : List T) : LeL l l := ⟨rfl, fun _ _ _ => .refl _⟩
theorem LeL.cons {a a' : T} {l l' : List T} (h : Le a a') (h' : LeL l l') : LeL (a :: l) (a' :: l') := by
  refine ⟨by simp [h'.1], fun i q q' => ?_⟩
  cases i with
  | zero => exact h
  | succ i => simpa using h'.2 i (by simpa using q) (by simpa using q')
theorem LeL.append : ∀ {l l' m m' : List T}, LeL l l' → LeL m m' → LeL (l ++ m) (l' ++ m')
  | [], [], _, _, _, h => h
  | [], _ :: _, _, _, h, _ => absurd h.1 (by simp)
  | _ :: _, [], _, _, h, _ => absurd h.1 (by simp)
  | a :: l, a' :: l', m, m', h, h2 => LeL.cons (h.2 0 (by simp) (by simp)) (LeL.append ⟨by have := h.1; simpa using this, fun i q q' => by have := h.2 (i + 1) (by simpa using q) (by simpa using q'); simpa using this⟩ h2)
theorem LeL.arr {s : Nat} {l l' : List T} (h : LeL l l') : Le (.arr s l) (.arr s l') := .arr s h.1 h.2
def smallN (b : Nat) (l : List Nd) : Prop := l.length ≤ b ∧ ∀ x ∈ l, x.ch.length ≤ 8
section
attribute [-go_sem] load1C load1V fldC lenC idxC loadNV
set_option maxRecDepth 20000 in
set_option maxRecDepth 20000 in
set_option maxRecDepth 20000 in
end
end Go.Ab

/- Contracts: drawn trees, part 2: random trees, exactly. -/
set_option linter.unusedSimpArgs false
set_option linter.unusedVariables false
namespace Go.Ab
open Go.Proofs
def grown (b : Nat) (l : List Nd) (x : List Nd × (Nat × Int)) : Prop := smallN (l.length + b) x.1 ∧ l.length < x.1.length ∧ seedOK x.2
section
attribute [-go_sem] load1C load1V fldC lenC idxC loadNV
end
end Go.Ab

/- Contracts: drawn strategies. -/
set_option linter.unusedSimpArgs false
set_option linter.unusedVariables false
namespace Go.Ab
open Go.Proofs
def sizesL (g : Gm) (pl : Int) : List Int := (List.range (sets g pl).length).map fun i => (sizeAt g pl i : Int)
theorem sizesL_length (g : Gm) (pl : Int) : (sizesL g pl).length = (sets g pl).length := by simp [sizesL]
theorem sizesL_get {g : Gm} {pl : Int} {i : Nat} (h : i < (sets g pl).length) : (sizesL g pl)[i]? = some (sizeAt g pl i : Int) := by simp [sizesL, h]
theorem sizesL_take {g : Gm} {pl : Int} {i : Nat} (h : i < (sets g pl).length) : (sizesL g pl).take (i + 1) = (sizesL g pl).take i ++ [(sizeAt g pl i : Int)] := take_snoc (sizesL_get h)
section
attribute [-go_sem] load1C load1V fldC lenC idxC loadNV nilCheckW
set_option maxRecDepth 20000 in
theorem spec_l22Sizes_ok (g : Gm) (pl : Int) (hl : g.nd.length ≤ 60) (hk : g.w.length ≤ 6) : Fun Try.prog 196 [] [.t (.agg [.sh 5 (chunk nodeC g.nd), .sh 1 (g.w.map ints), .sh 1 (g.v.map ints)]), .t (.i pl)] fun o r => o = [] ∧ r = intsO (sizesL g pl) := by
  refine fun_spec_l22Sizes (by simp) ?_
  simp -implicitDefEqProofs only [go_sem, evR, ints, rows, rat, rats, c_spec_l22Sizes]
  have hsl := sets_len g pl hl hk
  have hp := l21Sets_t g pl hl hk
  simp only [rowsO] at hp
  refine CallW.res hp [] rfl Try.call186 ?_ (.inl rfl) ?_
  · simp -implicitDefEqProofs only [agR, Nat.reduceLeDiff, Nat.reduceSub, vaR, go_sem, ints, rows, rat, rats, ratsO, rtR, intsO, rowsO]
  simp -implicitDefEqProofs only [clR, Nat.reduceLeDiff, go_sem, evR, rat]
  refine SemC.loopR (σ := Nat) (fun i => St.of [(2, .own 2), (5, .t (rows (sets g pl))), (6, .own 96), (7, .t (.i i))] [(2, .box [.sh 5 (chunk nodeC g.nd), .sh 1 (g.w.map ints), .sh 1 (g.v.map ints)]), (96, intsO ((sizesL g pl).take i))]) (fun i => i ≤ (sets g pl).length) (fun i => (sets g pl).length - i) 0 (Weak.trans (Weak.share 10 rfl) (Weak.of _ _ [some 2, some 11] (by simp) (by simp) ?_ ?_)) (by simp) fun i hi R hn hr he => ?_
  · simp -implicitDefEqProofs only [ints, rows, Nat.reduceBEq, wkR, Nat.reduceEqDiff, ↓reduceIte, wrR, shareA, T.toSh, toShL_intsO]
  · exact ⟨⟨_, rfl, .refl _⟩, rfl, ⟨_, rfl, .refl _⟩, rfl, trivial⟩
  rcases Nat.lt_or_ge i (sets g pl).length with h9 | h9
  · obtain ⟨n, c, x, hs, hx, hn1, hc1, hxp, hsz⟩ := set_elem h9
    have hlt : ((sizesL g pl).take i).length = i := by rw [List.length_take, sizesL_length]; omega
    simp -implicitDefEqProofs only [go_sem, evR, ints, rows, rat, rats, intsO, decide_eq_true (show (i : Int) < ((sets g pl).length : Int) by omega), hs, nd_get4 hx, Option.map_some, Option.getD_some]
    refine ⟨by omega, by omega, by omega, by omega, by rw [nd_len]; omega, by rw [nd_len]; omega, by omega, hn _ (i + 1) (Weak.of _ _ [some 2, some 33] (by simp) (by simp) ?_ ?_) (by omega) (by omega)⟩
    · simp -implicitDefEqProofs only [ints, rows, Nat.reduceBEq, wkR, Nat.reduceEqDiff, ↓reduceIte, wrR, next64 h9 (by omega)]
    · refine ⟨⟨_, rfl, .refl _⟩, rfl, ⟨_, rfl, ?_⟩, rfl, trivial⟩
      rw [sizesL_take h9, hsz, intsO, List.map_append]; exact .refl _
  · simp -implicitDefEqProofs only [go_sem, evR, ints, rows, rat, rats, decide_eq_false (show ¬ (i : Int) < ((sets g pl).length : Int) by omega)]
    refine he _ _ ?_
    simp -implicitDefEqProofs only [go_sem, evR, ints, rows, rat, rats, intsO]
    rw [List.take_of_length_le (by rw [sizesL_length]; exact h9)]
theorem size_bound {g : Gm} (hg : isGameB g = true) {pl : Int} (hpl : pl = 0 ∨ pl = 1) {i : Nat} (h : i < (sets g pl).length) : 1 ≤ sizeAt g pl i ∧ sizeAt g pl i ≤ 4 := by
  obtain ⟨n, c, x, hs, hx, hn1, hc1, hxp, hsz⟩ := set_elem h
  obtain ⟨p1, p2, p3, p4, p5⟩ := isGameB_parts hg
  obtain ⟨t1, t2, t3, t4⟩ := isTreeB_spec p1
  obtain ⟨-, -, -, -, f1, f2⟩ := ndOK_fields (t2 _ _ hx)
  rw [hsz]
  exact ⟨(f1 (by omega)).2, f2⟩
end
end Go.Ab

/- Games as data: the strategies of a run are strategies; its numbers stay small. -/
set_option linter.unusedSimpArgs false
set_option linter.unusedVariables false
namespace Go.Ab

theorem mem_le_foldl : ∀ (l : List Int) (a : Int), ∀ x ∈ l, x ≤ l.foldl max a
  | [], _ => by simp
  | y :: l, a => by
    intro x hx
    rw [List.foldl_cons]
    rcases List.mem_cons.1 hx with rfl | hx
    · have := foldl_max_ge l (max a x); omega
    · exact mem_le_foldl l _ x hx
theorem hvd_le : ∀ (f : Nat) (l : List Int), okW (W f) l → ∀ x ∈ hvd f l, 0 ≤ x ∧ x ≤ 1000000000
  | 0, l, h => fun x hx => by
    have h1 := h x hx
    have h2 : W 0 = 536870912 := rfl
    omega
  | f + 1, l, h => by
    rw [hvd]
    split
    · rename_i hm
      intro x hx
      have h1 : x ≤ mx0 l := mem_le_foldl l 0 x hx
      exact ⟨(h x hx).1, by omega⟩
    · exact hvd_le f (half l) (okW_half (by rw [← W_succ]; exact h))
theorem posL_ok {l : List Int} {B : Int} (h : ∀ x ∈ l, -B ≤ x ∧ x ≤ B) (hB : B < 9223372036854775808) : okW 9223372036854775808 (posL l) := by
  intro x hx
  obtain ⟨y, hy, rfl⟩ := List.mem_map.1 hx
  have := h y hy
  omega
theorem W34 : W 34 = 9223372036854775808 := by
  unfold W
  have h2 : (2 : Nat) ^ 63 = 9223372036854775808 := by decide
  omega
theorem rowW_ok {l : List Int} {B : Int} (h : ∀ x ∈ l, -B ≤ x ∧ x ≤ B) (hB : B < 9223372036854775808) (h1 : 1 ≤ l.length) (h4 : l.length ≤ 4) : weightsOK (hvd 34 (posL l)) := by
  refine ⟨?_, ?_, ?_⟩
  · rw [hvd_length]; simpa [posL] using h1
  · rw [hvd_length]; simpa [posL] using h4
  · exact hvd_le 34 _ (by rw [W34]; exact posL_ok h hB)
theorem mul_gt_neg {t q : Int} (ht : 0 < t) (h : -t < t * q) : 0 ≤ q := by
  rcases Int.lt_or_le q 0 with h1 | h1
  · have : t * q ≤ t * (-1) := Int.mul_le_mul_of_nonneg_left (by omega) (by omega)
    omega
  · exact h1
theorem sum_part {l : List Int} (h : ∀ x ∈ l, 0 ≤ x) : ∀ x ∈ l, x ≤ l.sum := by
  induction l with
  | nil => simp
  | cons y l ih =>
    intro x hx
    have h0 := sum_nonneg' (w := l) fun z hz => h z (by simp [hz])
    rw [List.sum_cons]
    rcases List.mem_cons.1 hx with rfl | hx
    · omega
    · have h1 := ih (fun z hz => h z (by simp [hz])) x hx
      have h2 := h y (by simp)
      omega
theorem ham1_parts {w : List Int} (hw : ∀ x ∈ w, 0 ≤ x) (ht : 0 < w.sum) : ∀ x ∈ ham1 w, 0 ≤ x ∧ x ≤ 60 := by
  obtain ⟨h1, h2, h3⟩ := ham1_spec hw ht
  have h0 : ∀ x ∈ ham1 w, 0 ≤ x := fun x hx => by
    obtain ⟨i, hi, rfl⟩ := List.mem_iff_getElem.1 hx
    have hiw : i < w.length := by omega
    have h4 := (h3 i hiw).1
    have h5 : (ham1 w).getD i 0 = (ham1 w)[i] := by rw [List.getD_eq_getElem?_getD, List.getElem?_eq_getElem hi]; rfl
    have h6 : 0 ≤ w.getD i 0 := by rw [List.getD_eq_getElem?_getD, List.getElem?_eq_getElem hiw]; exact hw _ (List.getElem_mem hiw)
    rw [h5] at h4
    exact mul_gt_neg ht (by omega)
  intro x hx
  have := sum_part h0 x hx
  exact ⟨h0 x hx, by omega⟩
theorem ham_parts {w : List Int} (hw : ∀ x ∈ w, 0 ≤ x) (hl : 1 ≤ w.length) : ∀ x ∈ ham w, 0 ≤ x ∧ x ≤ 60 := by
  have h0 := sum_nonneg' hw
  unfold ham
  split
  · exact ham1_parts (fun x hx => by simp [onesL] at hx; omega) (by rw [ones_sum]; omega)
  · exact ham1_parts hw (by omega)
theorem rowP_spec {l : List Int} {B : Int} (h : ∀ x ∈ l, -B ≤ x ∧ x ≤ B) (hB : B < 9223372036854775808) (h1 : 1 ≤ l.length) (h4 : l.length ≤ 4) : (rowP l).length = l.length ∧ (∀ x ∈ rowP l, 0 ≤ x ∧ x ≤ 60) ∧ sumI (rowP l) = 60 := by
  have hw := rowW_ok h hB h1 h4
  have hs := ham_spec (fun x hx => (hw.2.2 x hx).1) hw.1
  refine ⟨?_, ham_parts (fun x hx => (hw.2.2 x hx).1) hw.1, by rw [sumI_eq]; exact hs.2.1⟩
  show (ham _).length = _
  rw [hs.1, hvd_length]; simp [posL]
theorem stM_length (m : List (List Int)) : (stM m).length = m.length := by simp [stM]
theorem stM_get {m : List (List Int)} {i : Nat} {r : List Int} (h : m[i]? = some r) : (stM m)[i]? = some (rowP r) := by simp [stM, h]
theorem stM_strat {g : Gm} (hg : isGameB g = true) {pl B : Int} (hpl : pl = 0 ∨ pl = 1) {m : List (List Int)} (h : okM g pl B m) (hB : B < 9223372036854775808) : isStratB g pl (stM m) = true := by
  rw [isStratB_iff]
  refine ⟨by rw [stM_length]; exact h.1, fun i hi => ?_⟩
  obtain ⟨r, hr, _, hl, hb⟩ := okM_get h hi
  obtain ⟨b1, b2⟩ := size_bound hg hpl hi
  obtain ⟨q1, q2, q3⟩ := rowP_spec hb hB (by omega) (by omega)
  rw [List.getD_eq_getElem?_getD, stM_get hr, Option.getD_some, partOK_iff]
  refine ⟨by omega, List.all_eq_true.2 fun x hx => by simpa using q2 x hx, by rw [← sumI_eq]; exact q3⟩
theorem mine_row {g : Gm} {s t : List (List Int)} (hg : isGameB g = true) {pl : Int} (hpl : pl = 0 ∨ pl = 1) (hm : partsOK g (mineOf pl s t) pl) {i : Nat} (hi : i < (sets g pl).length) : (mineOf pl s t)[i]? = some ((mineOf pl s t).getD i []) ∧ ((mineOf pl s t).getD i []).length = sizeAt g pl i ∧ (∀ x ∈ (mineOf pl s t).getD i [], 0 ≤ x ∧ x ≤ 60) ∧ sumI ((mineOf pl s t).getD i []) = 60 := by
  obtain ⟨p1, p2, p3, p4, p5⟩ := isGameB_parts hg
  obtain ⟨t1, t2, t3, t4⟩ := isTreeB_spec p1
  obtain ⟨a1, a2, a3, a4, a5, a6⟩ := set_parts hi
  have h1 := partsOK_row t2 (by omega) hm a2 a3 a4
  have h2 := hm _ _ a2 a3 a4
  have e : (mineOf pl s t).getD i [] = partsOf g (mineOf pl s t) pl (setN g pl i) (setC g pl i) := by rw [partsOf, a6]
  rw [a6] at h1
  rw [e, a5]
  exact ⟨h1, h2⟩
theorem rowR_ok {g : Gm} (hg : isGameB g = true) {s t : List (List Int)} (hs : partsOK g s 0) (ht : partsOK g t 1) {pl B : Int} (hpl : pl = 0 ∨ pl = 1) {R : List (List Int)} (hR : okM g pl B R) {i : Nat} (hi : i < (sets g pl).length) :
    (rowR g s t pl R i).length = sizeAt g pl i ∧ ∀ x ∈ rowR g s t pl R i, -(B + 30000000000000) ≤ x ∧ x ≤ B + 30000000000000 := by
  obtain ⟨a1, a2, a3, a4, a5, a6⟩ := set_parts hi
  obtain ⟨r, hr, hr', hl, hb⟩ := okM_get hR hi
  obtain ⟨m1, m2, m3, m4⟩ := mine_row hg hpl (ot_ok hs ht hpl).1 hi
  have h2 : (g.nd.getD (setN g pl i) nd0).p ≠ 2 := by omega
  have hC := cnts_abs hg hs ht hpl a2 h2 a3
  have hCl := cnts_length g s t pl (setN g pl i) (setC g pl i)
  have hsz := (size_bound hg hpl hi).2
  unfold rowR
  rw [hr']
  refine ⟨by rw [updR_length (by omega)]; exact hl, fun x hx => ?_⟩
  have hM := meanP_abs m3 hC (cnts g s t pl (setN g pl i) (setC g pl i)).length
  have hM' : ((cnts g s t pl (setN g pl i) (setC g pl i)).length : Int) ≤ 4 := by omega
  obtain ⟨k, hk, rfl⟩ := List.mem_iff_getElem.1 hx
  have hkl : k < r.length := by rw [updR_length (by omega)] at hk; exact hk
  have hx1 := List.getElem?_eq_getElem hkl
  have hx2 := List.getElem?_eq_getElem (show k < (cnts g s t pl (setN g pl i) (setC g pl i)).length by omega)
  have h3 := updR_get (M := meanA ((mineOf pl s t).getD i []) (cnts g s t pl (setN g pl i) (setC g pl i))) hx1 hx2
  rw [List.getElem?_eq_getElem hk, Option.some.injEq] at h3
  rw [h3]
  have h4 := hb _ (List.getElem_mem hkl)
  have h5 := hC _ (List.getElem_mem (show k < (cnts g s t pl (setN g pl i) (setC g pl i)).length by omega))
  have h6 : meanA ((mineOf pl s t).getD i []) (cnts g s t pl (setN g pl i) (setC g pl i)) = meanP ((mineOf pl s t).getD i []) (cnts g s t pl (setN g pl i) (setC g pl i)) (cnts g s t pl (setN g pl i) (setC g pl i)).length := rfl
  rw [h6]
  omega
theorem own_bound {g : Gm} (hg : isGameB g = true) {S : List (List Int)} {pl : Int} (hS : partsOK g S pl) {c n : Nat} (hc : c < g.w.length) (hn : n < g.nd.length) (h2 : (g.nd.getD n nd0).p ≠ 2) : 0 ≤ wayP g S pl c n ∧ wayP g S pl c n ≤ 12960000 := by
  obtain ⟨p1, p2, p3, p4, p5⟩ := isGameB_parts hg
  obtain ⟨t1, t2, t3, t4⟩ := isTreeB_spec p1
  obtain ⟨b1, b2⟩ := wayP_bound t2 t3 hS hc n n (Nat.le_refl _) hn
  have := pw_le4 (show (wayL g.nd n).length ≤ 4 by have := (below_spec hg hn h2).1; omega)
  omega
theorem rowS_ok {g : Gm} (hg : isGameB g = true) {s t : List (List Int)} (hs : partsOK g s 0) (ht : partsOK g t 1) {pl B : Int} (hpl : pl = 0 ∨ pl = 1) {S : List (List Int)} (hS : okM g pl B S) {i : Nat} (hi : i < (sets g pl).length) :
    (rowS g s t pl S i).length = sizeAt g pl i ∧ ∀ x ∈ rowS g s t pl S i, -(B + 30000000000000) ≤ x ∧ x ≤ B + 30000000000000 := by
  obtain ⟨a1, a2, a3, a4, a5, a6⟩ := set_parts hi
  obtain ⟨r, hr, hr', hl, hb⟩ := okM_get hS hi
  obtain ⟨m1, m2, m3, m4⟩ := mine_row hg hpl (ot_ok hs ht hpl).1 hi
  have h2 : (g.nd.getD (setN g pl i) nd0).p ≠ 2 := by omega
  have hw := own_bound hg (ot_ok hs ht hpl).1 a3 a2 h2
  unfold rowS
  rw [hr']
  refine ⟨by rw [updW_length (by omega)]; exact hl, fun x hx => ?_⟩
  obtain ⟨k, hk, rfl⟩ := List.mem_iff_getElem.1 hx
  have hkl : k < r.length := by rw [updW_length (by omega)] at hk; exact hk
  have hx1 := List.getElem?_eq_getElem hkl
  have hx2 := List.getElem?_eq_getElem (show k < ((mineOf pl s t).getD i []).length by omega)
  have h3 := updW_get (w := wayP g (mineOf pl s t) pl (setC g pl i) (setN g pl i)) hx1 hx2
  rw [List.getElem?_eq_getElem hk, Option.some.injEq] at h3
  rw [h3]
  have h4 := hb _ (List.getElem_mem hkl)
  have h5 := m3 _ (List.getElem_mem (show k < ((mineOf pl s t).getD i []).length by omega))
  have h6 := Int.mul_le_mul hw.2 h5.2 h5.1 (by decide)
  have h7 := Int.mul_nonneg hw.1 h5.1
  omega
def okRS (g : Gm) (n : Nat) (x : RS) : Prop := okM g 0 (n * 30000000000000) x.r0 ∧ okM g 1 (n * 30000000000000) x.r1 ∧ okM g 0 (n * 30000000000000) x.s0 ∧ okM g 1 (n * 30000000000000) x.s1
theorem okRS_strats {g : Gm} (hg : isGameB g = true) {n : Nat} (hn : n ≤ 1000) {x : RS} (h : okRS g n x) : isStratB g 0 (stM x.r0) = true ∧ isStratB g 1 (stM x.r1) = true ∧ isStratB g 0 (stM x.s0) = true ∧ isStratB g 1 (stM x.s1) = true :=
  ⟨stM_strat hg (.inl rfl) h.1 (by omega), stM_strat hg (.inr rfl) h.2.1 (by omega), stM_strat hg (.inl rfl) h.2.2.1 (by omega), stM_strat hg (.inr rfl) h.2.2.2 (by omega)⟩
theorem stepRS_ok {g : Gm} (hg : isGameB g = true) {n : Nat} (hn : n ≤ 1000) {x : RS} (h : okRS g n x) : okRS g (n + 1) (stepRS g x) := by
  obtain ⟨h0, h1, _, _⟩ := okRS_strats hg hn h
  have h0 := partsOK_of h0
  have h1 := partsOK_of h1
  have e : ((n + 1 : Nat) : Int) * 30000000000000 = (n : Int) * 30000000000000 + 30000000000000 := by omega
  unfold okRS
  rw [e]
  exact ⟨okM_range fun i hi => rowR_ok hg h0 h1 (.inl rfl) h.1 hi, okM_range fun i hi => rowR_ok hg h0 h1 (.inr rfl) h.2.1 hi, okM_range fun i hi => rowS_ok hg h0 h1 (.inl rfl) h.2.2.1 hi, okM_range fun i hi => rowS_ok hg h0 h1 (.inr rfl) h.2.2.2 hi⟩
theorem runRS_ok {g : Gm} (hg : isGameB g = true) : ∀ n, n ≤ 1000 → okRS g n (runRS g n)
  | 0, _ => by
    unfold okRS
    rw [show ((0 : Nat) : Int) * 30000000000000 = 0 from rfl]
    exact ⟨zeroM_ok g 0, zeroM_ok g 1, zeroM_ok g 0, zeroM_ok g 1⟩
  | n + 1, h => stepRS_ok hg (by omega) (runRS_ok hg n (by omega))
end Go.Ab

/- Games as data: the results of runs. -/
set_option linter.unusedSimpArgs false
set_option linter.unusedVariables false
namespace Go.Ab

def rcode (g : Gm) (pl n : Int) : Int := if isGameB g = true then (if (0 ≤ n ∧ n ≤ 30) ∧ (0 ≤ pl ∧ pl ≤ 1) then 0 else 2) else 1
theorem rcode_no {g : Gm} {pl n : Int} (h : isGameB g = false) : rcode g pl n = 1 := by rw [rcode, h]; rfl
theorem rcode_range {g : Gm} {pl n : Int} (h : isGameB g = true) (hr : ¬ ((0 ≤ n ∧ n ≤ 30) ∧ (0 ≤ pl ∧ pl ≤ 1))) : rcode g pl n = 2 := by rw [rcode, if_pos h, if_neg hr]
theorem rcode_zero {g : Gm} {pl n : Int} : rcode g pl n = 0 ↔ isGameB g = true ∧ (0 ≤ n ∧ n ≤ 30) ∧ (0 ≤ pl ∧ pl ≤ 1) := by
  unfold rcode
  by_cases h : isGameB g = true
  · rw [if_pos h]
    by_cases hr : (0 ≤ n ∧ n ≤ 30) ∧ (0 ≤ pl ∧ pl ≤ 1)
    · rw [if_pos hr]; exact ⟨fun _ => ⟨h, hr⟩, fun _ => rfl⟩
    · rw [if_neg hr]; exact ⟨fun e => by omega, fun e => absurd e.2 hr⟩
  · rw [if_neg h]; exact ⟨fun e => by omega, fun e => absurd e.1 h⟩
def runI (g : Gm) (n : Int) : RS := runRS g n.toNat
def stZ : Int × List (List Int) := (0, [])
def avgR (g : Gm) (n : Int) : (Int × List (List Int)) × (Int × List (List Int)) × Int := if rcode g 0 n = 0 then ((0, stM (runI g n).s0), (1, stM (runI g n).s1), 0) else (stZ, stZ, rcode g 0 n)
theorem tot_le {k : Nat} : ∀ {m : List (List Int)}, (∀ r ∈ m, r.length ≤ k) → tot m ≤ m.length * k
  | [], _ => by simp [tot]
  | r :: m, h => by
    have h1 := tot_le (m := m) fun r hr => h r (by simp [hr])
    have h2 := h r (by simp)
    rw [tot, List.length_cons, Nat.add_mul, Nat.one_mul]; omega
theorem rowsS_of {m : List (List Int)} (hl : m.length ≤ 1000) (h : ∀ r ∈ m, r.length ≤ 1000) : rowsS m := by
  have h1 := tot_le h
  have h2 : m.length * 1000 ≤ 1000 * 1000 := Nat.mul_le_mul hl (Nat.le_refl _)
  exact ⟨by omega, by omega⟩
theorem rowsS_nil : rowsS [] := ⟨by simp, by simp [tot]⟩
theorem sets_360 {g : Gm} (hg : isGameB g = true) (pl : Int) : (sets g pl).length ≤ 360 := by
  obtain ⟨p1, p2, p3, p4, p5⟩ := isGameB_parts hg
  exact sets_len g pl (isTreeB_spec p1).1.2 p2.2
theorem strat_rowsS {g : Gm} (hg : isGameB g = true) {pl : Int} (hpl : pl = 0 ∨ pl = 1) {m : List (List Int)} (h : isStratB g pl m = true) : rowsS m := by
  have hs := sets_360 hg pl
  have h := isStratB_iff.1 h
  refine rowsS_of (by rw [h.1]; omega) fun r hr => ?_
  obtain ⟨i, hi⟩ := List.mem_iff_getElem?.1 hr
  have hil := (List.getElem?_eq_some_iff.1 hi).1
  have h1 := (partOK_iff.1 (h.2 i (by rw [← h.1]; exact hil))).1
  have h2 := (size_bound hg hpl (i := i) (by rw [← h.1]; exact hil)).2
  rw [List.getD_eq_getElem?_getD, hi, Option.getD_some] at h1
  omega
theorem avgR_rowsS (g : Gm) (n : Int) : rowsS (avgR g n).1.2 ∧ rowsS (avgR g n).2.1.2 := by
  unfold avgR
  split
  · rename_i h
    obtain ⟨h1, h2, h3⟩ := rcode_zero.1 h
    obtain ⟨a, b, c, d⟩ := okRS_strats h1 (show n.toNat ≤ 1000 by omega) (runRS_ok h1 n.toNat (by omega))
    exact ⟨strat_rowsS h1 (.inl rfl) c, strat_rowsS h1 (.inr rfl) d⟩
  · exact ⟨rowsS_nil, rowsS_nil⟩
end Go.Ab

/- Contracts: counts of an information set; strategies of a run. -/
set_option linter.unusedSimpArgs false
set_option linter.unusedVariables false
namespace Go.Ab
open Go.Proofs
section
attribute [-go_sem] load1C load1V fldC lenC idxC loadNV nilCheckW
theorem cnts_take {g : Gm} {s t : List (List Int)} {pl : Int} {n c k : Nat} {x : Int} (h : (g.nd.getD n nd0).ch[k]? = some x) : (cnts g s t pl n c).take (k + 1) = (cnts g s t pl n c).take k ++ [cntN g s t pl n c x.toNat g.w.length] := take_snoc (cnts_get h)
set_option maxRecDepth 20000 in
theorem spec_l25Counts0 {g : Gm} (hg : isGameB g = true) {s t : List (List Int)} (hs : partsOK g s 0) (ht : partsOK g t 1) {n c : Nat} (hn : n < g.nd.length) (h2 : (g.nd.getD n nd0).p ≠ 2) (hc : c < g.w.length) : Fun Try.prog 208 [] [.t (.agg [.sh 5 (chunk nodeC g.nd), .sh 1 (g.w.map ints), .sh 1 (g.v.map ints)]), .t (.agg [.i 0, .sh 1 (s.map ints)]), .t (.agg [.i 1, .sh 1 (t.map ints)]), .t (.i 0), .t (.i n), .t (.i c)] fun o r => o = [] ∧ r = intsO (cnts g s t 0 n c) := by
  obtain ⟨p1, p2, p3, p4, p5⟩ := isGameB_parts hg
  obtain ⟨t1, t2, t3, t4⟩ := isTreeB_spec p1
  obtain ⟨e1, e2, e3⟩ := below_spec hg hn h2
  obtain ⟨x, hx⟩ : ∃ x, g.nd[n]? = some x := ⟨_, List.getElem?_eq_getElem hn⟩
  have hxd : g.nd.getD n nd0 = x := by rw [List.getD_eq_getElem?_getD, hx]; rfl
  have hxl := (ndOK_fields (t2 _ _ hx)).2.2.2.2.2
  have hcl := cnts_length g s t 0 n c
  have hcg : ∀ k y, x.ch[k]? = some y → (cnts g s t 0 n c).take (k + 1) = (cnts g s t 0 n c).take k ++ [cntN g s t 0 n c y.toNat g.w.length] := fun k y h => cnts_take (by rw [hxd]; exact h)
  rw [hxd] at hcl e3
  refine fun_spec_l25Counts (by simp) ?_
  simp -implicitDefEqProofs only [go_sem, evR, ints, rows, rat, rats, c_spec_l25Counts, nd_at hx, show ((0 : Int) == 1) = false from rfl, show ((1 : Int) == 1) = true from rfl, opR, Nat.reduceBEq]
  repeat (first | refine ⟨by omega, ?_⟩ | refine ⟨by rw [nd_len]; omega, ?_⟩)
  refine CallW.pure (dep_t (spec_l20Depth_ok t2 (by omega) g.nd.length n (by omega) hn (by omega))) [] rfl Try.call158 ?_ (by first | trivial | simp [T.noSh, T.noShL, rat]) rfl ?_
  · simp -implicitDefEqProofs only [agR, Nat.reduceLeDiff, Nat.reduceSub, vaR, go_sem, ints, rows, rat, rats, ratsO, rtR, intsO, rowsO]
  simp -implicitDefEqProofs only [go_sem, evR, ints, rows, rat, rats]
  rw [e2]
  refine SemC.loopR (σ := Nat) (fun k => St.of [(3, .t (.i 0)), (4, .t (.i n)), (5, .t (.i c)), (6, .own 6), (7, .own 7), (8, .own 8), (13, .own 13), (14, .own 14), (15, .t (.i (belowN g n))), (16, .own 116), (17, .t (.i k))] [(6, .box [nodes g.nd, rows g.w, rows g.v]), (7, .box [.i 0, rows s]), (8, .box [.i 1, rows t]), (13, .box [.i x.p, .i x.a, .i x.b, .i x.f, ints x.ch]), (14, .box [.i 1, rows (otOf 0 s t)]), (116, intsO ((cnts g s t 0 n c).take k))]) (fun k => k ≤ x.ch.length) (fun k => x.ch.length - k) 0 (Weak.of _ _ [some 6, some 7, some 8, some 13, some 14, some 38] (by simp) (by simp) ?_ ?_) (by omega) fun k hk R hn1 hr he => ?_
  · simp -implicitDefEqProofs only [ints, rows, Nat.reduceBEq, wkR, Nat.reduceEqDiff, ↓reduceIte, wrR, nodes, show (belowN g n : Int) + 1 - 1 = (belowN g n : Int) by omega, wrap64 (n := (belowN g n : Int)) (by omega) (by omega)]
  · exact ⟨⟨_, rfl, .refl _⟩, rfl, ⟨_, rfl, .refl _⟩, rfl, ⟨_, rfl, .refl _⟩, rfl, ⟨_, rfl, .refl _⟩, rfl, ⟨_, rfl, .refl _⟩, rfl, ⟨_, rfl, .refl _⟩, rfl, trivial⟩
  rcases Nat.lt_or_ge k x.ch.length with h9 | h9
  · obtain ⟨y, hy⟩ : ∃ y, x.ch[k]? = some y := ⟨_, List.getElem?_eq_getElem h9⟩
    obtain ⟨y0, y1, y2⟩ := e3 y (List.mem_of_getElem? hy)
    have hlt : ((cnts g s t 0 n c).take k).length = k := by rw [List.length_take, hcl]; omega
    simp -implicitDefEqProofs only [go_sem, evR, ints, rows, rat, rats, nodes, intsO, decide_eq_true (show (k : Int) < (x.ch.length : Int) by omega)]
    refine SemC.loopR (σ := Nat) (fun o => St.of [(3, .t (.i 0)), (4, .t (.i n)), (5, .t (.i c)), (6, .own 6), (7, .own 7), (8, .own 8), (13, .own 13), (14, .own 14), (15, .t (.i (belowN g n))), (16, .own 116), (17, .t (.i k)), (18, .t (.i (cntN g s t 0 n c y.toNat o))), (19, .t (.i o))] [(6, .box [nodes g.nd, rows g.w, rows g.v]), (7, .box [.i 0, rows s]), (8, .box [.i 1, rows t]), (13, .box [.i x.p, .i x.a, .i x.b, .i x.f, ints x.ch]), (14, .box [.i 1, rows (otOf 0 s t)]), (116, intsO ((cnts g s t 0 n c).take k))]) (fun o => o ≤ g.w.length) (fun o => g.w.length - o) 0 (Weak.of _ _ [some 6, some 7, some 8, some 13, some 14, some 116] (by simp) (by simp) ?_ ?_) (by omega) fun o ho R2 hn2 hr2 he2 => ?_
    · simp -implicitDefEqProofs only [ints, rows, Nat.reduceBEq, wkR, Nat.reduceEqDiff, ↓reduceIte, wrR, nodes, show cntN g s t 0 n c y.toNat 0 = 0 from rfl]
    · exact ⟨⟨_, rfl, .refl _⟩, rfl, ⟨_, rfl, .refl _⟩, rfl, ⟨_, rfl, .refl _⟩, rfl, ⟨_, rfl, .refl _⟩, rfl, ⟨_, rfl, .refl _⟩, rfl, ⟨_, rfl, .refl _⟩, rfl, trivial⟩
    rcases Nat.lt_or_ge o g.w.length with h8 | h8
    · obtain ⟨r, z, hr0, hz, hz0, hz9⟩ := game_w hg hc h8
      have hrl : r.length = g.w.length := ((matK_iff.1 p3).2 r (List.mem_of_getElem? hr0)).1
      have hwz : wAt g 0 c o = z := by
        unfold wAt
        simp only [List.getD_eq_getElem?_getD, hr0, hz, Option.getD_some, if_pos]
      have hsu := cntN_succ g s t 0 n c y.toNat o
      have k1 := cntN_abs hg hs ht (.inl rfl) hn h2 hc (by rw [hxd]; exact List.mem_of_getElem? hy) (m := o) (by omega)
      have k2 := cntN_abs hg hs ht (.inl rfl) hn h2 hc (by rw [hxd]; exact List.mem_of_getElem? hy) (m := o + 1) (by omega)
      have k3 := cntF_abs hg hs ht (.inl rfl) hn h2 hc h8 (by rw [hxd]; exact List.mem_of_getElem? hy)
      have hot := (ot_ok hs ht (.inl rfl)).2
      obtain ⟨b1, b2⟩ := wayP_bound (c := o) t2 t3 hot h8 n n (Nat.le_refl _) hn
      have hpw := pw_le4 (p := (wayL g.nd n).length) (by omega)
      have hr1 := rchW_abs (c := c) hg hs ht (.inl rfl) hn h8
      simp -implicitDefEqProofs only [go_sem, evR, ints, rows, rat, rats, nodes, intsO, hr0, hz, decide_eq_true (show (o : Int) < (g.w.length : Int) by omega), show ((0 : Int) == 1) = false from rfl, show ((1 : Int) == 1) = true from rfl]
      repeat (first | refine ⟨by omega, ?_⟩ | refine ⟨by rw [nd_len]; omega, ?_⟩)
      refine ⟨fun h5 => ?_, fun h5 => ?_⟩
      · repeat (first | refine ⟨by omega, ?_⟩ | refine ⟨by rw [nd_len]; omega, ?_⟩)
        have hcall := spec_l25Parts_ok hg (.inr rfl) hot (c := o) (n := n) h8 hn
        have hval := sval_t (spec_l23Value_ok (s := (0, s)) (t := (1, t)) hg hs ht hc h8 g.nd.length y.toNat (belowN g n) (by omega) y1 y2 (by omega))
        rw [show ((y.toNat : Nat) : Int) = y by omega] at hval
        have hrw : 1 * z * wayP g (otOf 0 s t) 1 o n = rchW g s t 0 n c o := by rw [rchW, hwz]; rfl
        have hcf : rchW g s t 0 n c o * val g s t g.nd.length y.toNat c o (belowN g n) = cntF g s t 0 n c y.toNat o := rfl
        refine CallV.pure hcall [] rfl Try.call209 (fun e R' hR => ?_) (by first | trivial | simp [T.noSh, T.noShL, rat]) (fun _ => rfl) ?_
        · simp -implicitDefEqProofs only [agR, Nat.reduceLeDiff, Nat.reduceSub, vaR, go_sem, ints, rows, rat, rats, ratsO, rtR, intsO, rowsO]
        simp -implicitDefEqProofs only [go_sem, evR, ints, rows, rat, rats, nodes, hy]
        repeat (first | refine ⟨by omega, ?_⟩ | refine ⟨by rw [nd_len]; omega, ?_⟩)
        refine CallV.pure hval [] rfl Try.call183 (fun e R' hR => ?_) (by first | trivial | simp [T.noSh, T.noShL, rat]) (fun _ => rfl) ?_
        · simp -implicitDefEqProofs only [agR, Nat.reduceLeDiff, Nat.reduceSub, vaR, go_sem, ints, rows, rat, rats, ratsO, rtR, intsO, rowsO]
        simp -implicitDefEqProofs only [go_sem, evR, ints, rows, rat, rats]
        refine hn2 _ (o + 1) (Weak.of _ _ [some 6, some 7, some 8, some 13, some 14, some 116] (by simp) (by simp) ?_ ?_) (by omega) (by omega)
        · simp -implicitDefEqProofs only [ints, rows, Nat.reduceBEq, wkR, Nat.reduceEqDiff, ↓reduceIte, wrR, nodes, next64 h8 (by omega), wrap64 (n := 1 * z) (by omega) (by omega), hrw, wrap64 (n := rchW g s t 0 n c o) (by omega) (by omega), hcf, wrap64 (n := cntF g s t 0 n c y.toNat o) (by omega) (by omega), ← hsu, wrap64 (n := cntN g s t 0 n c y.toNat (o + 1)) (by omega) (by omega)]
        · exact ⟨⟨_, rfl, .refl _⟩, rfl, ⟨_, rfl, .refl _⟩, rfl, ⟨_, rfl, .refl _⟩, rfl, ⟨_, rfl, .refl _⟩, rfl, ⟨_, rfl, .refl _⟩, rfl, ⟨_, rfl, .refl _⟩, rfl, trivial⟩
      · have hz0 : z = 0 := by have : ¬ z > 0 := by simpa using h5
                               omega
        have h0 : cntF g s t 0 n c y.toNat o = 0 := by rw [cntF, rchW_zero (by rw [hwz]; exact hz0), Int.zero_mul]
        rw [h0, Int.add_zero] at hsu
        refine hn2 _ (o + 1) (Weak.of _ _ [some 6, some 7, some 8, some 13, some 14, some 116] (by simp) (by simp) ?_ ?_) (by omega) (by omega)
        · simp -implicitDefEqProofs only [ints, rows, Nat.reduceBEq, wkR, Nat.reduceEqDiff, ↓reduceIte, wrR, nodes, next64 h8 (by omega), hsu]
        · exact ⟨⟨_, rfl, .refl _⟩, rfl, ⟨_, rfl, .refl _⟩, rfl, ⟨_, rfl, .refl _⟩, rfl, ⟨_, rfl, .refl _⟩, rfl, ⟨_, rfl, .refl _⟩, rfl, ⟨_, rfl, .refl _⟩, rfl, trivial⟩
    · simp -implicitDefEqProofs only [go_sem, evR, ints, rows, rat, rats, nodes, intsO, decide_eq_false (show ¬ (o : Int) < (g.w.length : Int) by omega)]
      refine he2 _ _ ?_
      simp -implicitDefEqProofs only [go_sem, evR, ints, rows, rat, rats, hlt]
      repeat (first | refine ⟨by omega, ?_⟩ | refine ⟨by rw [nd_len]; omega, ?_⟩)
      refine hn1 _ (k + 1) (Weak.of _ _ [some 6, some 7, some 8, some 13, some 14, some 102] (by simp) (by simp) ?_ ?_) (by omega) (by omega)
      · simp -implicitDefEqProofs only [ints, rows, Nat.reduceBEq, wkR, Nat.reduceEqDiff, ↓reduceIte, wrR, nodes, next64 h9 (show x.ch.length ≤ 1000000000000 by omega)]
      · refine ⟨⟨_, rfl, .refl _⟩, rfl, ⟨_, rfl, .refl _⟩, rfl, ⟨_, rfl, .refl _⟩, rfl, ⟨_, rfl, .refl _⟩, rfl, ⟨_, rfl, .refl _⟩, rfl, ⟨_, rfl, ?_⟩, rfl, trivial⟩
        rw [hcg k y hy, show o = g.w.length by omega, intsO, List.map_append]; exact .refl _
  · simp -implicitDefEqProofs only [go_sem, evR, ints, rows, rat, rats, nodes, intsO, decide_eq_false (show ¬ (k : Int) < (x.ch.length : Int) by omega)]
    refine he _ _ ?_
    simp -implicitDefEqProofs only [go_sem, evR, ints, rows, rat, rats]
    rw [List.take_of_length_le (by omega), intsO]
set_option maxRecDepth 20000 in
theorem spec_l25Counts1 {g : Gm} (hg : isGameB g = true) {s t : List (List Int)} (hs : partsOK g s 0) (ht : partsOK g t 1) {n c : Nat} (hn : n < g.nd.length) (h2 : (g.nd.getD n nd0).p ≠ 2) (hc : c < g.w.length) : Fun Try.prog 208 [] [.t (.agg [.sh 5 (chunk nodeC g.nd), .sh 1 (g.w.map ints), .sh 1 (g.v.map ints)]), .t (.agg [.i 0, .sh 1 (s.map ints)]), .t (.agg [.i 1, .sh 1 (t.map ints)]), .t (.i 1), .t (.i n), .t (.i c)] fun o r => o = [] ∧ r = intsO (cnts g s t 1 n c) := by
  obtain ⟨p1, p2, p3, p4, p5⟩ := isGameB_parts hg
  obtain ⟨t1, t2, t3, t4⟩ := isTreeB_spec p1
  obtain ⟨e1, e2, e3⟩ := below_spec hg hn h2
  obtain ⟨x, hx⟩ : ∃ x, g.nd[n]? = some x := ⟨_, List.getElem?_eq_getElem hn⟩
  have hxd : g.nd.getD n nd0 = x := by rw [List.getD_eq_getElem?_getD, hx]; rfl
  have hxl := (ndOK_fields (t2 _ _ hx)).2.2.2.2.2
  have hcl := cnts_length g s t 1 n c
  have hcg : ∀ k y, x.ch[k]? = some y → (cnts g s t 1 n c).take (k + 1) = (cnts g s t 1 n c).take k ++ [cntN g s t 1 n c y.toNat g.w.length] := fun k y h => cnts_take (by rw [hxd]; exact h)
  rw [hxd] at hcl e3
  refine fun_spec_l25Counts (by simp) ?_
  simp -implicitDefEqProofs only [go_sem, evR, ints, rows, rat, rats, c_spec_l25Counts, nd_at hx, show ((0 : Int) == 1) = false from rfl, show ((1 : Int) == 1) = true from rfl, opR, Nat.reduceBEq]
  repeat (first | refine ⟨by omega, ?_⟩ | refine ⟨by rw [nd_len]; omega, ?_⟩)
  refine CallW.pure (dep_t (spec_l20Depth_ok t2 (by omega) g.nd.length n (by omega) hn (by omega))) [] rfl Try.call158 ?_ (by first | trivial | simp [T.noSh, T.noShL, rat]) rfl ?_
  · simp -implicitDefEqProofs only [agR, Nat.reduceLeDiff, Nat.reduceSub, vaR, go_sem, ints, rows, rat, rats, ratsO, rtR, intsO, rowsO]
  simp -implicitDefEqProofs only [go_sem, evR, ints, rows, rat, rats]
  rw [e2]
  refine SemC.loopR (σ := Nat) (fun k => St.of [(3, .t (.i 1)), (4, .t (.i n)), (5, .t (.i c)), (6, .own 6), (7, .own 7), (8, .own 8), (13, .own 13), (14, .own 14), (15, .t (.i (belowN g n))), (16, .own 116), (17, .t (.i k))] [(6, .box [nodes g.nd, rows g.w, rows g.v]), (7, .box [.i 0, rows s]), (8, .box [.i 1, rows t]), (13, .box [.i x.p, .i x.a, .i x.b, .i x.f, ints x.ch]), (14, .box [.i 0, rows (otOf 1 s t)]), (116, intsO ((cnts g s t 1 n c).take k))]) (fun k => k ≤ x.ch.length) (fun k => x.ch.length - k) 0 (Weak.of _ _ [some 6, some 7, some 8, some 13, some 14, some 38] (by simp) (by simp) ?_ ?_) (by omega) fun k hk R hn1 hr he => ?_
  · simp -implicitDefEqProofs only [ints, rows, Nat.reduceBEq, wkR, Nat.reduceEqDiff, ↓reduceIte, wrR, nodes, show (belowN g n : Int) + 1 - 1 = (belowN g n : Int) by omega, wrap64 (n := (belowN g n : Int)) (by omega) (by omega)]
  · exact ⟨⟨_, rfl, .refl _⟩, rfl, ⟨_, rfl, .refl _⟩, rfl, ⟨_, rfl, .refl _⟩, rfl, ⟨_, rfl, .refl _⟩, rfl, ⟨_, rfl, .refl _⟩, rfl, ⟨_, rfl, .refl _⟩, rfl, trivial⟩
  rcases Nat.lt_or_ge k x.ch.length with h9 | h9
  · obtain ⟨y, hy⟩ : ∃ y, x.ch[k]? = some y := ⟨_, List.getElem?_eq_getElem h9⟩
    obtain ⟨y0, y1, y2⟩ := e3 y (List.mem_of_getElem? hy)
    have hlt : ((cnts g s t 1 n c).take k).length = k := by rw [List.length_take, hcl]; omega
    simp -implicitDefEqProofs only [go_sem, evR, ints, rows, rat, rats, nodes, intsO, decide_eq_true (show (k : Int) < (x.ch.length : Int) by omega)]
    refine SemC.loopR (σ := Nat) (fun o => St.of [(3, .t (.i 1)), (4, .t (.i n)), (5, .t (.i c)), (6, .own 6), (7, .own 7), (8, .own 8), (13, .own 13), (14, .own 14), (15, .t (.i (belowN g n))), (16, .own 116), (17, .t (.i k)), (18, .t (.i (cntN g s t 1 n c y.toNat o))), (19, .t (.i o))] [(6, .box [nodes g.nd, rows g.w, rows g.v]), (7, .box [.i 0, rows s]), (8, .box [.i 1, rows t]), (13, .box [.i x.p, .i x.a, .i x.b, .i x.f, ints x.ch]), (14, .box [.i 0, rows (otOf 1 s t)]), (116, intsO ((cnts g s t 1 n c).take k))]) (fun o => o ≤ g.w.length) (fun o => g.w.length - o) 0 (Weak.of _ _ [some 6, some 7, some 8, some 13, some 14, some 116] (by simp) (by simp) ?_ ?_) (by omega) fun o ho R2 hn2 hr2 he2 => ?_
    · simp -implicitDefEqProofs only [ints, rows, Nat.reduceBEq, wkR, Nat.reduceEqDiff, ↓reduceIte, wrR, nodes, show cntN g s t 1 n c y.toNat 0 = 0 from rfl]
    · exact ⟨⟨_, rfl, .refl _⟩, rfl, ⟨_, rfl, .refl _⟩, rfl, ⟨_, rfl, .refl _⟩, rfl, ⟨_, rfl, .refl _⟩, rfl, ⟨_, rfl, .refl _⟩, rfl, ⟨_, rfl, .refl _⟩, rfl, trivial⟩
    rcases Nat.lt_or_ge o g.w.length with h8 | h8
    · obtain ⟨r, z, hr0, hz, hz0, hz9⟩ := game_w hg h8 hc
      have hrl : r.length = g.w.length := ((matK_iff.1 p3).2 r (List.mem_of_getElem? hr0)).1
      have hwz : wAt g 1 c o = z := by
        unfold wAt
        simp only [List.getD_eq_getElem?_getD, hr0, hz, Option.getD_some, show ((1 : Int) = 0) = False by simp, if_false]
      have hsu := cntN_succ g s t 1 n c y.toNat o
      have k1 := cntN_abs hg hs ht (.inr rfl) hn h2 hc (by rw [hxd]; exact List.mem_of_getElem? hy) (m := o) (by omega)
      have k2 := cntN_abs hg hs ht (.inr rfl) hn h2 hc (by rw [hxd]; exact List.mem_of_getElem? hy) (m := o + 1) (by omega)
      have k3 := cntF_abs hg hs ht (.inr rfl) hn h2 hc h8 (by rw [hxd]; exact List.mem_of_getElem? hy)
      have hot := (ot_ok hs ht (.inr rfl)).2
      obtain ⟨b1, b2⟩ := wayP_bound (c := o) t2 t3 hot h8 n n (Nat.le_refl _) hn
      have hpw := pw_le4 (p := (wayL g.nd n).length) (by omega)
      have hr1 := rchW_abs (c := c) hg hs ht (.inr rfl) hn h8
      simp -implicitDefEqProofs only [go_sem, evR, ints, rows, rat, rats, nodes, intsO, hr0, hz, decide_eq_true (show (o : Int) < (g.w.length : Int) by omega), show ((0 : Int) == 1) = false from rfl, show ((1 : Int) == 1) = true from rfl]
      repeat (first | refine ⟨by omega, ?_⟩ | refine ⟨by rw [nd_len]; omega, ?_⟩)
      refine ⟨fun h5 => ?_, fun h5 => ?_⟩
      · repeat (first | refine ⟨by omega, ?_⟩ | refine ⟨by rw [nd_len]; omega, ?_⟩)
        have hcall := spec_l25Parts_ok hg (.inl rfl) hot (c := o) (n := n) h8 hn
        have hval := sval_t (spec_l23Value_ok (s := (0, s)) (t := (1, t)) hg hs ht h8 hc g.nd.length y.toNat (belowN g n) (by omega) y1 y2 (by omega))
        rw [show ((y.toNat : Nat) : Int) = y by omega] at hval
        have hrw : (-1) * z * wayP g (otOf 1 s t) 0 o n = rchW g s t 1 n c o := by rw [rchW, hwz]; rfl
        have hcf : rchW g s t 1 n c o * val g s t g.nd.length y.toNat o c (belowN g n) = cntF g s t 1 n c y.toNat o := rfl
        refine CallV.pure hcall [] rfl Try.call209 (fun e R' hR => ?_) (by first | trivial | simp [T.noSh, T.noShL, rat]) (fun _ => rfl) ?_
        · simp -implicitDefEqProofs only [agR, Nat.reduceLeDiff, Nat.reduceSub, vaR, go_sem, ints, rows, rat, rats, ratsO, rtR, intsO, rowsO]
        simp -implicitDefEqProofs only [go_sem, evR, ints, rows, rat, rats, nodes, hy]
        repeat (first | refine ⟨by omega, ?_⟩ | refine ⟨by rw [nd_len]; omega, ?_⟩)
        refine CallV.pure hval [] rfl Try.call183 (fun e R' hR => ?_) (by first | trivial | simp [T.noSh, T.noShL, rat]) (fun _ => rfl) ?_
        · simp -implicitDefEqProofs only [agR, Nat.reduceLeDiff, Nat.reduceSub, vaR, go_sem, ints, rows, rat, rats, ratsO, rtR, intsO, rowsO]
        simp -implicitDefEqProofs only [go_sem, evR, ints, rows, rat, rats]
        refine hn2 _ (o + 1) (Weak.of _ _ [some 6, some 7, some 8, some 13, some 14, some 116] (by simp) (by simp) ?_ ?_) (by omega) (by omega)
        · simp -implicitDefEqProofs only [ints, rows, Nat.reduceBEq, wkR, Nat.reduceEqDiff, ↓reduceIte, wrR, nodes, next64 h8 (by omega), wrap64 (n := (-1) * z) (by omega) (by omega), hrw, wrap64 (n := rchW g s t 1 n c o) (by omega) (by omega), hcf, wrap64 (n := cntF g s t 1 n c y.toNat o) (by omega) (by omega), ← hsu, wrap64 (n := cntN g s t 1 n c y.toNat (o + 1)) (by omega) (by omega)]
        · exact ⟨⟨_, rfl, .refl _⟩, rfl, ⟨_, rfl, .refl _⟩, rfl, ⟨_, rfl, .refl _⟩, rfl, ⟨_, rfl, .refl _⟩, rfl, ⟨_, rfl, .refl _⟩, rfl, ⟨_, rfl, .refl _⟩, rfl, trivial⟩
      · have hz0 : z = 0 := by have : ¬ z > 0 := by simpa using h5
                               omega
        have h0 : cntF g s t 1 n c y.toNat o = 0 := by rw [cntF, rchW_zero (by rw [hwz]; exact hz0), Int.zero_mul]
        rw [h0, Int.add_zero] at hsu
        refine hn2 _ (o + 1) (Weak.of _ _ [some 6, some 7, some 8, some 13, some 14, some 116] (by simp) (by simp) ?_ ?_) (by omega) (by omega)
        · simp -implicitDefEqProofs only [ints, rows, Nat.reduceBEq, wkR, Nat.reduceEqDiff, ↓reduceIte, wrR, nodes, next64 h8 (by omega), hsu]
        · exact ⟨⟨_, rfl, .refl _⟩, rfl, ⟨_, rfl, .refl _⟩, rfl, ⟨_, rfl, .refl _⟩, rfl, ⟨_, rfl, .refl _⟩, rfl, ⟨_, rfl, .refl _⟩, rfl, ⟨_, rfl, .refl _⟩, rfl, trivial⟩
    · simp -implicitDefEqProofs only [go_sem, evR, ints, rows, rat, rats, nodes, intsO, decide_eq_false (show ¬ (o : Int) < (g.w.length : Int) by omega)]
      refine he2 _ _ ?_
      simp -implicitDefEqProofs only [go_sem, evR, ints, rows, rat, rats, hlt]
      repeat (first | refine ⟨by omega, ?_⟩ | refine ⟨by rw [nd_len]; omega, ?_⟩)
      refine hn1 _ (k + 1) (Weak.of _ _ [some 6, some 7, some 8, some 13, some 14, some 102] (by simp) (by simp) ?_ ?_) (by omega) (by omega)
      · simp -implicitDefEqProofs only [ints, rows, Nat.reduceBEq, wkR, Nat.reduceEqDiff, ↓reduceIte, wrR, nodes, next64 h9 (show x.ch.length ≤ 1000000000000 by omega)]
      · refine ⟨⟨_, rfl, .refl _⟩, rfl, ⟨_, rfl, .refl _⟩, rfl, ⟨_, rfl, .refl _⟩, rfl, ⟨_, rfl, .refl _⟩, rfl, ⟨_, rfl, .refl _⟩, rfl, ⟨_, rfl, ?_⟩, rfl, trivial⟩
        rw [hcg k y hy, show o = g.w.length by omega, intsO, List.map_append]; exact .refl _
  · simp -implicitDefEqProofs only [go_sem, evR, ints, rows, rat, rats, nodes, intsO, decide_eq_false (show ¬ (k : Int) < (x.ch.length : Int) by omega)]
    refine he _ _ ?_
    simp -implicitDefEqProofs only [go_sem, evR, ints, rows, rat, rats]
    rw [List.take_of_length_le (by omega), intsO]
end
end Go.Ab

/- Functions in compact form, with hints. -/
set_option linter.unusedVariables false
namespace Go.Ab
open Go.Proofs

def c_impl_AverageStrategies_h : CC :=
 (.seq (.reg [.o (.box 2 (sl 0)),
 .o (.alloc 4 [.v (.int .i64 0), .v (.slice none 0 0)]),
 .o (.alloc 5 [.v (.int .i64 0), .v (.slice none 0 0)]),
 .o (.move 6 (ci 0))])
 ((.seq (.reg [.o (.loadN 12 3 (sl 2)),
 .o (.move 13 (sl 1)),
 .o (.call (some 14) (cf 109) [(sl 12), (sl 13)]),
 .o (.move 11 (sl 14)),
 .o (.extract 15 (sl 11) 0),
 .o (.extract 16 (sl 11) 1),
 .o (.move 7 (sl 15)),
 .o (.move 8 (sl 16))])
 ((.seq (.seq (.reg [.o (.move 17 (sl 8)),
 .o (.bin 18 .neq (sl 17) (ci 0))])
 ((.cond (sl 18) (.seq (.reg [.o (.build 19 [.v (.int .i64 0), .v (.slice none 0 0)] [(0, 1), (1, 1)] []),
 .o (.build 20 [.v (.int .i64 0), .v (.slice none 0 0)] [(0, 1), (1, 1)] []),
 .o (.move 21 (sl 8)),
 .o (.store 2 (sl 4) (sl 19)),
 .o (.store 2 (sl 5) (sl 20)),
 .o (.move 6 (sl 21))])
 (.ret))
 .skip)))
 ((.seq (.reg [.o (.move 23 (sl 7)),
 .o (.call (some 24) (cf 113) [(sl 23)]),
 .o (.move 22 (sl 24)),
 .o (.extract 25 (sl 22) 0),
 .o (.extract 26 (sl 22) 1),
 .o (.alloc 9 [.v (.int .i64 0), .v (.slice none 0 0)]),
 .o (.alloc 10 [.v (.int .i64 0), .v (.slice none 0 0)]),
 .o (.store 2 (sl 9) (sl 25)),
 .o (.store 2 (sl 10) (sl 26))])
 ((.seq (.weak (.draw [] [(kR, .o (.loadN 27 2 (sl 9))),
 (.r false [4, 501], .o (.loadN 28 2 (sl 10))),
 (.h (some [4, 501]) [], .o (.store 2 (sl 4) (sl 27))),
 (kH, .o (.store 2 (sl 5) (sl 28))),
 (kR, .o (.move 6 (ci 0)))]))
 (.ret))))))))))
theorem fun_impl_AverageStrategies_h {rin : List T} {args : List A} {Q : List T → T → Prop} (ha : args.length ≤ 29) (h : cW Try.prog 29 c_impl_AverageStrategies_h (retP Try.prog [.cell 4 47, .cell 5 47, .tmp 6] rin.length Q) (St.of (enum 0 args) (enum 1000000000 rin))) :
    Fun Try.prog 43 rin args Q :=
  Fun.of (H := ⟨[(5, 1, .r false [4, 501]), (5, 2, .h (some [4, 501]) [])], [5]⟩) Try.func43 rfl rfl rfl (by kernel_rfl) ha (by decide) h

def c_spec_l25Step_h : CC :=
 (.seq (.weak (.draw [19, 26, 2, 3] [(kR, .o (.move 13 (sl 0))),
 (kR, .o (.nilc 14 (sl 13))),
 (kR, .o (.fld 15 3 (sl 14))),
 (kR, .o (.load1 16 (sl 15))),
 (kR, .o (.idx 17 1 (sl 16) (ci 0))),
 (kR, .o (.load1 18 (sl 17))),
 (.c false [], .o (.call (some 19) (cf 111) [(ci 0), (sl 18)])),
 (.r false [19], .o (.move 20 (sl 0))),
 (.r false [19], .o (.nilc 21 (sl 20))),
 (.r false [19], .o (.fld 22 3 (sl 21))),
 (.r false [19], .o (.load1 23 (sl 22))),
 (.r false [19], .o (.idx 24 1 (sl 23) (ci 1))),
 (.r false [19], .o (.load1 25 (sl 24))),
 (.c false [], .o (.call (some 26) (cf 111) [(ci 1), (sl 25)])),
 (kN, .o (.alloc 2 [.v (.int .i64 0), .v (.slice none 0 0)])),
 (kN, .o (.alloc 3 [.v (.int .i64 0), .v (.slice none 0 0)])),
 (kH, .o (.store 2 (sl 2) (sl 19))),
 (kH, .o (.store 2 (sl 3) (sl 26)))]))
 ((.seq (.weak (.reg [.o (.move 4 (ci 0))]))
 ((.block 0 (.loop (.seq (.seq (.reg [.o (.move 27 (sl 4)),
 .o (.bin 28 .lss (sl 27) (ci 2))])
 ((.cond (sl 28) .skip
 (.exit 0))))
 ((.seq (.block 1 (.seq (.reg [.o (.loadN 31 2 (sl 2)),
 .o (.alloc 5 [.v (.int .i64 0), .v (.slice none 0 0)]),
 .o (.store 2 (sl 5) (sl 31))])
 ((.seq (.seq (.reg [.o (.move 32 (sl 4)),
 .o (.bin 33 .eql (sl 32) (ci 1))])
 ((.cond (sl 33) (.reg [.o (.loadN 34 2 (sl 3)),
 .o (.store 2 (sl 5) (sl 34))])
 .skip)))
 ((.seq (.reg [.o (.move 35 (sl 0)),
 .o (.nilc 36 (sl 35)),
 .o (.fld 37 0 (sl 36)),
 .o (.loadN 38 3 (sl 37)),
 .o (.move 39 (sl 4)),
 .o (.call (some 40) (cf 186) [(sl 38), (sl 39)]),
 .o (.move 6 (sl 40))])
 ((.seq (.reg [.o (.move 7 (ci 0))])
 ((.block 2 (.loop (.seq (.seq (.reg [.o (.move 41 (sl 7)),
 .o (.move 42 (sl 6)),
 .o (.lenS 43 (sl 42)),
 .o (.bin 44 .lss (sl 41) (sl 43))])
 ((.cond (sl 44) .skip
 (.exit 2))))
 ((.seq (.block 3 (.seq (.draw [66] [(kR, .o (.move 47 (sl 0))),
 (kR, .o (.nilc 48 (sl 47))),
 (kR, .o (.fld 49 0 (sl 48))),
 (kR, .o (.loadN 50 3 (sl 49))),
 (kR, .o (.loadN 51 2 (sl 2))),
 (kR, .o (.loadN 52 2 (sl 3))),
 (kR, .o (.move 53 (sl 4))),
 (kR, .o (.move 54 (sl 6))),
 (kR, .o (.move 55 (sl 7))),
 (kR, .o (.idx 56 1 (sl 54) (sl 55))),
 (kR, .o (.load1 57 (sl 56))),
 (kR, .o (.idx 58 1 (sl 57) (ci 0))),
 (kR, .o (.load1 59 (sl 58))),
 (kR, .o (.move 60 (sl 6))),
 (kR, .o (.move 61 (sl 7))),
 (kR, .o (.idx 62 1 (sl 60) (sl 61))),
 (kR, .o (.load1 63 (sl 62))),
 (kR, .o (.idx 64 1 (sl 63) (ci 1))),
 (kR, .o (.load1 65 (sl 64))),
 (.c false [], .o (.call (some 66) (cf 208) [(sl 50), (sl 51), (sl 52), (sl 53), (sl 59), (sl 65)])),
 (kR, .o (.move 8 (sl 66)))])
 ((.seq (.reg [.o (.move 9 (ci 0))])
 ((.seq (.seq (.reg [.o (.move 10 (ci 0))])
 ((.block 4 (.loop (.seq (.seq (.reg [.o (.move 67 (sl 10)),
 .o (.move 68 (sl 8)),
 .o (.lenS 69 (sl 68)),
 .o (.bin 70 .lss (sl 67) (sl 69))])
 ((.cond (sl 70) .skip
 (.exit 4))))
 ((.seq (.block 5 (.draw [] [(kR, .o (.move 73 (sl 9))),
 (kR, .o (.fld 74 1 (sl 5))),
 (kR, .o (.load1 75 (sl 74))),
 (kR, .o (.move 76 (sl 7))),
 (kR, .o (.idx 77 1 (sl 75) (sl 76))),
 (kR, .o (.load1 78 (sl 77))),
 (kR, .o (.move 79 (sl 10))),
 (kR, .o (.idx 80 1 (sl 78) (sl 79))),
 (kR, .o (.load1 81 (sl 80))),
 (kR, .o (.move 82 (sl 8))),
 (kR, .o (.move 83 (sl 10))),
 (kR, .o (.idx 84 1 (sl 82) (sl 83))),
 (kR, .o (.load1 85 (sl 84))),
 (kR, .o (.bin 86 .mul (sl 81) (sl 85))),
 (kR, .o (.bin 87 .add (sl 73) (sl 86))),
 (kR, .o (.move 9 (sl 87)))]))
 ((.reg [.o (.move 71 (sl 10)),
 .o (.bin 72 .add (sl 71) (ci 1)),
 .o (.move 10 (sl 72))])))))))))
 ((.seq (.draw [] [(kR, .o (.move 88 (sl 0))),
 (kR, .o (.nilc 89 (sl 88))),
 (kR, .o (.fld 90 0 (sl 89))),
 (kR, .o (.loadN 91 3 (sl 90))),
 (kR, .o (.loadN 92 2 (sl 5))),
 (kR, .o (.move 93 (sl 6))),
 (kR, .o (.move 94 (sl 7))),
 (kR, .o (.idx 95 1 (sl 93) (sl 94))),
 (kR, .o (.load1 96 (sl 95))),
 (kR, .o (.idx 97 1 (sl 96) (ci 0))),
 (kR, .o (.load1 98 (sl 97))),
 (kR, .o (.move 99 (sl 6))),
 (kR, .o (.move 100 (sl 7))),
 (kR, .o (.idx 101 1 (sl 99) (sl 100))),
 (kR, .o (.load1 102 (sl 101))),
 (kR, .o (.idx 103 1 (sl 102) (ci 1))),
 (kR, .o (.load1 104 (sl 103))),
 (kR, .o (.call (some 105) (cf 209) [(sl 91), (sl 92), (sl 98), (sl 104)])),
 (kR, .o (.move 11 (sl 105)))])
 ((.seq (.reg [.o (.move 12 (ci 0))])
 ((.block 6 (.loop (.seq (.seq (.reg [.o (.move 106 (sl 12)),
 .o (.move 107 (sl 8)),
 .o (.lenS 108 (sl 107)),
 .o (.bin 109 .lss (sl 106) (sl 108))])
 ((.cond (sl 109) .skip
 (.exit 6))))
 ((.seq (.block 7 (.seq (.weak (.draw [] [(kR, .o (.move 112 (sl 0))),
 (kR, .o (.nilc 113 (sl 112))),
 (kR, .o (.fld 114 3 (sl 113))),
 (kR, .o (.load1 115 (sl 114))),
 (kR, .o (.move 116 (sl 4))),
 (kR, .o (.idx 117 1 (sl 115) (sl 116))),
 (kR, .o (.load1 118 (sl 117))),
 (kR, .o (.move 119 (sl 7))),
 (kR, .o (.idx 120 1 (sl 118) (sl 119))),
 (kR, .o (.load1 121 (sl 120))),
 (kR, .o (.move 122 (sl 12))),
 (kR, .o (.move 123 (sl 0))),
 (kR, .o (.nilc 124 (sl 123))),
 (kR, .o (.fld 125 3 (sl 124))),
 (kR, .o (.load1 126 (sl 125))),
 (kR, .o (.move 127 (sl 4))),
 (kR, .o (.idx 128 1 (sl 126) (sl 127))),
 (kR, .o (.load1 129 (sl 128))),
 (kR, .o (.move 130 (sl 7))),
 (kR, .o (.idx 131 1 (sl 129) (sl 130))),
 (kR, .o (.load1 132 (sl 131))),
 (kR, .o (.move 133 (sl 12))),
 (kR, .o (.idx 134 1 (sl 132) (sl 133))),
 (kR, .o (.load1 135 (sl 134))),
 (kR, .o (.move 136 (sl 8))),
 (kR, .o (.move 137 (sl 12))),
 (kR, .o (.idx 138 1 (sl 136) (sl 137))),
 (kR, .o (.load1 139 (sl 138))),
 (kR, .o (.bin 140 .mul (ci 60) (sl 139))),
 (kR, .o (.bin 141 .add (sl 135) (sl 140))),
 (kR, .o (.move 142 (sl 9))),
 (kR, .o (.bin 143 .sub (sl 141) (sl 142))),
 (kR, .o (.idx 144 1 (sl 121) (sl 122))),
 (kH, .o (.store 1 (sl 144) (sl 143)))]))
 ((.weak (.draw [] [(kR, .o (.move 145 (sl 0))),
 (kR, .o (.nilc 146 (sl 145))),
 (kR, .o (.fld 147 4 (sl 146))),
 (kR, .o (.load1 148 (sl 147))),
 (kR, .o (.move 149 (sl 4))),
 (kR, .o (.idx 150 1 (sl 148) (sl 149))),
 (kR, .o (.load1 151 (sl 150))),
 (kR, .o (.move 152 (sl 7))),
 (kR, .o (.idx 153 1 (sl 151) (sl 152))),
 (kR, .o (.load1 154 (sl 153))),
 (kR, .o (.move 155 (sl 12))),
 (kR, .o (.move 156 (sl 0))),
 (kR, .o (.nilc 157 (sl 156))),
 (kR, .o (.fld 158 4 (sl 157))),
 (kR, .o (.load1 159 (sl 158))),
 (kR, .o (.move 160 (sl 4))),
 (kR, .o (.idx 161 1 (sl 159) (sl 160))),
 (kR, .o (.load1 162 (sl 161))),
 (kR, .o (.move 163 (sl 7))),
 (kR, .o (.idx 164 1 (sl 162) (sl 163))),
 (kR, .o (.load1 165 (sl 164))),
 (kR, .o (.move 166 (sl 12))),
 (kR, .o (.idx 167 1 (sl 165) (sl 166))),
 (kR, .o (.load1 168 (sl 167))),
 (kR, .o (.move 169 (sl 11))),
 (kR, .o (.fld 170 1 (sl 5))),
 (kR, .o (.load1 171 (sl 170))),
 (kR, .o (.move 172 (sl 7))),
 (kR, .o (.idx 173 1 (sl 171) (sl 172))),
 (kR, .o (.load1 174 (sl 173))),
 (kR, .o (.move 175 (sl 12))),
 (kR, .o (.idx 176 1 (sl 174) (sl 175))),
 (kR, .o (.load1 177 (sl 176))),
 (kR, .o (.bin 178 .mul (sl 169) (sl 177))),
 (kR, .o (.bin 179 .add (sl 168) (sl 178))),
 (kR, .o (.idx 180 1 (sl 154) (sl 155))),
 (kH, .o (.store 1 (sl 180) (sl 179)))])))))
 ((.weak (.reg [.o (.move 110 (sl 12)),
 .o (.bin 111 .add (sl 110) (ci 1)),
 .o (.move 12 (sl 111))])))))))))))))))))))
 ((.reg [.o (.move 45 (sl 7)),
 .o (.bin 46 .add (sl 45) (ci 1)),
 .o (.move 7 (sl 46))]))))))))))))))))
 ((.reg [.o (.move 29 (sl 4)),
 .o (.bin 30 .add (sl 29) (ci 1)),
 .o (.move 4 (sl 30))])))))))))))
theorem fun_spec_l25Step_h {rin : List T} {args : List A} {Q : List T → T → Prop} (ha : args.length ≤ 181) (h : cW Try.prog 181 c_spec_l25Step_h (retP Try.prog [] rin.length Q) (St.of (enum 0 args) (enum 1000000000 rin))) :
    Fun Try.prog 169 rin args Q :=
  Fun.of (H := ⟨[], [0, 1, 20, 21, 22]⟩) Try.func169 rfl rfl rfl (by kernel_rfl) ha (by decide) h

def c_impl_newRegret_h : CC :=
 (.seq (.reg [.o (.box 1 (sl 0)),
 .o (.move 2 (cv (.pointer none)))])
 ((.seq (.reg [.o (.loadN 8 3 (sl 1)),
 .o (.build 9 [.v (.slice none 0 0), .v (.slice none 0 0), .v (.slice none 0 0), .v (.slice none 0 0), .v (.slice none 0 0), .v (.slice none 0 0), .v (.slice none 0 0)] [(0, 3), (3, 2), (5, 2)] [(0, (sl 8))]),
 .o (.box 10 (sl 9)),
 .o (.move 3 (sl 10))])
 ((.seq (.seq (.reg [.o (.move 11 (ci 0))])
 ((.block 0 (.loop (.seq (.reg [.o (.bin 12 .lss (sl 11) (ci 2))])
 ((.seq (.cond (sl 12) .skip
 (.exit 0))
 ((.seq (.block 1 (.seq (.reg [.o (.move 13 (sl 11)),
 .o (.move 4 (sl 13))])
 ((.seq (.reg [.o (.loadN 14 3 (sl 1)),
 .o (.move 15 (sl 4)),
 .o (.call (some 16) (cf 152) [(sl 14), (sl 15)]),
 .o (.lenS 17 (sl 16)),
 .o (.move 18 (ci 0))])
 ((.block 2 (.loop (.seq (.reg [.o (.bin 19 .lss (sl 18) (sl 17))])
 ((.seq (.cond (sl 19) .skip
 (.exit 2))
 ((.seq (.block 3 (.seq (.reg [.o (.idx 20 1 (sl 16) (sl 18)),
 .o (.load1 21 (sl 20)),
 .o (.move 6 (sl 21))])
 ((.seq (.draw [] [(kR, .o (.fld 22 0 (sl 1))),
 (kR, .o (.fld 23 0 (sl 22))),
 (kR, .o (.load1 24 (sl 23))),
 (kR, .o (.move 25 (sl 6))),
 (kR, .o (.idx 26 1 (sl 25) (ci 0))),
 (kR, .o (.load1 27 (sl 26))),
 (kR, .o (.idx 28 5 (sl 24) (sl 27))),
 (kR, .o (.fld 29 4 (sl 28))),
 (kR, .o (.load1 30 (sl 29))),
 (kR, .o (.lenS 31 (sl 30))),
 (kR, .o (.move 7 (sl 31)))])
 ((.seq (.weak (.draw [41] [(.r false [41, 42, 43, 501], .o (.move 32 (sl 3))),
 (.r false [41, 42, 43, 501], .o (.move 33 (sl 4))),
 (.r false [41, 42], .o (.move 34 (sl 3))),
 (.r false [41, 42], .o (.move 35 (sl 4))),
 (.r false [41, 42], .o (.nilc 36 (sl 34))),
 (.r false [41, 42], .o (.fld 37 3 (sl 36))),
 (.r false [41, 42], .o (.idxA 38 2 1 (sl 37) (sl 35))),
 (.r false [41, 42], .o (.load1 39 (sl 38))),
 (kE, .o (.move 40 (sl 7))),
 (kN, .o (.make 41 [.v (.int .i64 0)] 8 (sl 40) (sl 40))),
 (.h (some [41]) [], .o (.bslice 42 1 1 [(0, (sl 41))])),
 (.h (some [42, 501]) [], .o (.app 43 1 24 (sl 39) (sl 42))),
 (.r false [41, 42, 43, 501], .o (.nilc 44 (sl 32))),
 (.r false [41, 42, 43, 501], .o (.fld 45 3 (sl 44))),
 (kR, .o (.idxA 46 2 1 (sl 45) (sl 33))),
 (kH, .o (.store 1 (sl 46) (sl 43)))]))
 ((.weak (.draw [56] [(.r false [56, 57, 58, 502], .o (.move 47 (sl 3))),
 (.r false [56, 57, 58, 502], .o (.move 48 (sl 4))),
 (.r false [56, 57], .o (.move 49 (sl 3))),
 (.r false [56, 57], .o (.move 50 (sl 4))),
 (.r false [56, 57], .o (.nilc 51 (sl 49))),
 (.r false [56, 57], .o (.fld 52 5 (sl 51))),
 (.r false [56, 57], .o (.idxA 53 2 1 (sl 52) (sl 50))),
 (.r false [56, 57], .o (.load1 54 (sl 53))),
 (kE, .o (.move 55 (sl 7))),
 (kN, .o (.make 56 [.v (.int .i64 0)] 8 (sl 55) (sl 55))),
 (.h (some [56]) [], .o (.bslice 57 1 1 [(0, (sl 56))])),
 (.h (some [57, 502]) [], .o (.app 58 1 24 (sl 54) (sl 57))),
 (.r false [56, 57, 58, 502], .o (.nilc 59 (sl 47))),
 (.r false [56, 57, 58, 502], .o (.fld 60 5 (sl 59))),
 (kR, .o (.idxA 61 2 1 (sl 60) (sl 48))),
 (kH, .o (.store 1 (sl 61) (sl 58)))])))))))))
 ((.reg [.o (.bin 62 .add (sl 18) (ci 1)),
 .o (.move 18 (sl 62))]))))))))))))))
 ((.reg [.o (.bin 63 .add (sl 11) (ci 1)),
 .o (.move 11 (sl 63))])))))))))))
 ((.seq (.reg [.o (.move 64 (sl 3)),
 .o (.move 2 (sl 64))])
 (.ret))))))))
theorem fun_impl_newRegret_h {rin : List T} {args : List A} {Q : List T → T → Prop} (ha : args.length ≤ 65) (h : cW Try.prog 65 c_impl_newRegret_h (retP Try.prog [.tmp 2] rin.length Q) (St.of (enum 0 args) (enum 1000000000 rin))) :
    Fun Try.prog 170 rin args Q :=
  Fun.of (H := ⟨[(9, 0, .r false [41, 42, 43, 501]), (9, 1, .r false [41, 42, 43, 501]), (9, 12, .r false [41, 42, 43, 501]), (9, 13, .r false [41, 42, 43, 501]), (9, 2, .r false [41, 42]), (9, 3, .r false [41, 42]), (9, 4, .r false [41, 42]), (9, 5, .r false [41, 42]), (9, 6, .r false [41, 42]), (9, 7, .r false [41, 42]), (9, 10, .h (some [41]) []), (9, 11, .h (some [42, 501]) []), (10, 0, .r false [56, 57, 58, 502]), (10, 1, .r false [56, 57, 58, 502]), (10, 12, .r false [56, 57, 58, 502]), (10, 13, .r false [56, 57, 58, 502]), (10, 2, .r false [56, 57]), (10, 3, .r false [56, 57]), (10, 4, .r false [56, 57]), (10, 5, .r false [56, 57]), (10, 6, .r false [56, 57]), (10, 7, .r false [56, 57]), (10, 10, .h (some [56]) []), (10, 11, .h (some [57, 502]) [])], [9, 10]⟩) Try.func170 rfl rfl rfl (by kernel_rfl) ha (by decide) h

def c___impl_regretRun__iterate_h : CC :=
 (.seq (.reg [.o (.move 9 (sl 0)),
 .o (.call (some 10) (cf 112) [(sl 9)]),
 .o (.move 8 (sl 10)),
 .o (.extract 11 (sl 8) 0),
 .o (.extract 12 (sl 8) 1),
 .o (.alloc 2 [.v (.int .i64 0), .v (.slice none 0 0)]),
 .o (.alloc 3 [.v (.int .i64 0), .v (.slice none 0 0)]),
 .o (.store 2 (sl 2) (sl 11)),
 .o (.store 2 (sl 3) (sl 12))])
 ((.seq (.weak (.draw [19] [(kR, .o (.move 13 (sl 0))),
 (kR, .o (.nilc 14 (sl 13))),
 (kR, .o (.fld 15 0 (sl 14))),
 (kR, .o (.loadN 16 3 (sl 15))),
 (kR, .o (.loadN 17 2 (sl 2))),
 (kR, .o (.loadN 18 2 (sl 3))),
 (.c false [], .o (.call (some 19) (cf 179) [(sl 16), (sl 17), (sl 18)])),
 (kR, .o (.move 4 (sl 19)))]))
 ((.seq (.weak (.reg [.o (.move 20 (ci 0))]))
 ((.block 0 (.loop (.seq (.reg [.o (.bin 21 .lss (sl 20) (ci 2))])
 ((.seq (.cond (sl 21) .skip
 (.exit 0))
 ((.seq (.block 1 (.seq (.reg [.o (.move 22 (sl 20)),
 .o (.move 5 (sl 22))])
 ((.seq (.reg [.o (.move 23 (sl 0)),
 .o (.nilc 24 (sl 23)),
 .o (.fld 25 0 (sl 24)),
 .o (.loadN 26 3 (sl 25)),
 .o (.move 27 (sl 5)),
 .o (.call (some 28) (cf 152) [(sl 26), (sl 27)]),
 .o (.lenS 29 (sl 28)),
 .o (.move 30 (ci 0))])
 ((.block 2 (.loop (.seq (.reg [.o (.bin 31 .lss (sl 30) (sl 29))])
 ((.seq (.cond (sl 31) .skip
 (.exit 2))
 ((.seq (.block 3 (.seq (.reg [.o (.move 32 (sl 30)),
 .o (.idx 33 1 (sl 28) (sl 30)),
 .o (.load1 34 (sl 33)),
 .o (.move 6 (sl 32)),
 .o (.move 7 (sl 34))])
 ((.draw [] [(kR, .o (.move 35 (sl 0))),
 (kR, .o (.move 36 (sl 4))),
 (kR, .o (.move 37 (sl 5))),
 (kR, .o (.move 38 (sl 6))),
 (kR, .o (.move 39 (sl 7))),
 (kR, .o (.idx 40 1 (sl 39) (ci 0))),
 (kR, .o (.load1 41 (sl 40))),
 (kR, .o (.move 42 (sl 7))),
 (kR, .o (.idx 43 1 (sl 42) (ci 1))),
 (kR, .o (.load1 44 (sl 43))),
 (kH, .o (.call (some 45) (cf 210) [(sl 35), (sl 36), (sl 37), (sl 38), (sl 41), (sl 44)]))]))))
 ((.reg [.o (.bin 46 .add (sl 30) (ci 1)),
 .o (.move 30 (sl 46))]))))))))))))))
 ((.reg [.o (.bin 47 .add (sl 20) (ci 1)),
 .o (.move 20 (sl 47))])))))))))))))))
theorem fun___impl_regretRun__iterate_h {rin : List T} {args : List A} {Q : List T → T → Prop} (ha : args.length ≤ 48) (h : cW Try.prog 48 c___impl_regretRun__iterate_h (retP Try.prog [] rin.length Q) (St.of (enum 0 args) (enum 1000000000 rin))) :
    Fun Try.prog 171 rin args Q :=
  Fun.of (H := ⟨[], [1, 2]⟩) Try.func171 rfl rfl rfl (by kernel_rfl) ha (by decide) h

def c_impl_strategyOf_h : CC :=
 (.seq (.reg [.o (.alloc 4 [.v (.int .i64 0), .v (.slice none 0 0)])])
 ((.seq (.reg [.o (.move 11 (sl 0)),
 .o (.build 12 [.v (.int .i64 0), .v (.slice none 0 0)] [(0, 1), (1, 1)] [(0, (sl 11))]),
 .o (.alloc 5 [.v (.int .i64 0), .v (.slice none 0 0)]),
 .o (.store 2 (sl 5) (sl 12))])
 ((.seq (.seq (.reg [.o (.move 13 (sl 1)),
 .o (.lenS 14 (sl 13)),
 .o (.move 15 (ci 0))])
 ((.block 0 (.loop (.seq (.reg [.o (.bin 16 .lss (sl 15) (sl 14))])
 ((.seq (.cond (sl 16) .skip
 (.exit 0))
 ((.seq (.block 1 (.seq (.reg [.o (.idx 17 1 (sl 13) (sl 15)),
 .o (.load1 18 (sl 17)),
 .o (.move 7 (sl 18))])
 ((.seq (.reg [.o (.move 19 (sl 7)),
 .o (.lenS 20 (sl 19)),
 .o (.make 21 [.v (.int .i64 0)] 8 (sl 20) (sl 20)),
 .o (.move 8 (sl 21))])
 ((.seq (.seq (.reg [.o (.move 22 (sl 7)),
 .o (.lenS 23 (sl 22)),
 .o (.move 24 (ci 0))])
 ((.block 2 (.loop (.seq (.reg [.o (.bin 25 .lss (sl 24) (sl 23))])
 ((.seq (.cond (sl 25) .skip
 (.exit 2))
 ((.seq (.block 3 (.seq (.reg [.o (.move 26 (sl 24)),
 .o (.idx 27 1 (sl 22) (sl 24)),
 .o (.load1 28 (sl 27)),
 .o (.move 9 (sl 26)),
 .o (.move 10 (sl 28))])
 ((.reg [.o (.move 29 (sl 8)),
 .o (.move 30 (sl 9)),
 .o (.move 31 (sl 10)),
 .o (.mm 32 true (ci 0) (sl 31)),
 .o (.idx 33 1 (sl 29) (sl 30)),
 .o (.store 1 (sl 33) (sl 32))]))))
 ((.reg [.o (.bin 34 .add (sl 24) (ci 1)),
 .o (.move 24 (sl 34))])))))))))))
 ((.weak (.draw [38, 39] [(.r false [38, 39, 40], .o (.fld 35 1 (sl 5))),
 (.r false [38, 39, 40], .o (.load1 36 (sl 35))),
 (kE, .o (.move 37 (sl 8))),
 (.c false [], .o (.call (some 38) (cf 211) [(sl 37)])),
 (.c false [], .o (.call (some 39) (cf 193) [(sl 38)])),
 (.h (some [39]) [], .o (.bslice 40 1 1 [(0, (sl 39))])),
 (kH, .o (.app 41 1 24 (sl 36) (sl 40))),
 (kR, .o (.fld 42 1 (sl 5))),
 (kH, .o (.store 1 (sl 42) (sl 41)))])))))))))
 ((.reg [.o (.bin 43 .add (sl 15) (ci 1)),
 .o (.move 15 (sl 43))])))))))))))
 ((.seq (.reg [.o (.loadN 44 2 (sl 5)),
 .o (.store 2 (sl 4) (sl 44))])
 (.ret))))))))
theorem fun_impl_strategyOf_h {rin : List T} {args : List A} {Q : List T → T → Prop} (ha : args.length ≤ 45) (h : cW Try.prog 45 c_impl_strategyOf_h (retP Try.prog [.cell 4 47] rin.length Q) (St.of (enum 0 args) (enum 1000000000 rin))) :
    Fun Try.prog 174 rin args Q :=
  Fun.of (H := ⟨[(11, 0, .r false [38, 39, 40]), (11, 1, .r false [38, 39, 40]), (11, 5, .h (some [39]) [])], [11]⟩) Try.func174 rfl rfl rfl (by kernel_rfl) ha (by decide) h

def c___impl_regretRun__update_h : CC :=
 (.seq (.reg [.o (.move 31 (sl 0)),
 .o (.nilc 32 (sl 31)),
 .o (.fld 33 0 (sl 32)),
 .o (.fld 34 0 (sl 33)),
 .o (.fld 35 0 (sl 34)),
 .o (.load1 36 (sl 35)),
 .o (.move 37 (sl 4)),
 .o (.idx 38 5 (sl 36) (sl 37)),
 .o (.fld 39 4 (sl 38)),
 .o (.load1 40 (sl 39)),
 .o (.move 12 (sl 40))])
 ((.seq (.reg [.o (.move 13 (ci 0))])
 ((.seq (.seq (.reg [.o (.move 41 (sl 12)),
 .o (.lenS 42 (sl 41)),
 .o (.move 43 (ci 0))])
 ((.block 0 (.loop (.seq (.reg [.o (.bin 44 .lss (sl 43) (sl 42))])
 ((.seq (.cond (sl 44) .skip
 (.exit 0))
 ((.seq (.block 1 (.seq (.reg [.o (.idx 45 1 (sl 41) (sl 43)),
 .o (.load1 46 (sl 45)),
 .o (.move 15 (sl 46))])
 ((.reg [.o (.move 47 (sl 13)),
 .o (.move 48 (sl 0)),
 .o (.nilc 49 (sl 48)),
 .o (.fld 50 0 (sl 49)),
 .o (.fld 51 0 (sl 50)),
 .o (.loadN 52 1 (sl 51)),
 .o (.move 53 (sl 15)),
 .o (.call (some 54) (cf 164) [(sl 52), (sl 53)]),
 .o (.mm 55 true (sl 47) (sl 54)),
 .o (.move 13 (sl 55))]))))
 ((.reg [.o (.bin 56 .add (sl 43) (ci 1)),
 .o (.move 43 (sl 56))])))))))))))
 ((.seq (.reg [.o (.move 57 (sl 12)),
 .o (.lenS 58 (sl 57)),
 .o (.make 59 [.v (.int .i64 0)] 8 (sl 58) (sl 58)),
 .o (.move 16 (sl 59))])
 ((.seq (.seq (.reg [.o (.move 60 (sl 0)),
 .o (.nilc 61 (sl 60)),
 .o (.fld 62 0 (sl 61)),
 .o (.fld 63 1 (sl 62)),
 .o (.load1 64 (sl 63)),
 .o (.lenS 65 (sl 64)),
 .o (.move 66 (ci 0))])
 ((.block 2 (.loop (.seq (.reg [.o (.bin 67 .lss (sl 66) (sl 65))])
 ((.seq (.cond (sl 67) .skip
 (.exit 2))
 ((.seq (.block 3 (.seq (.reg [.o (.move 68 (sl 66)),
 .o (.move 17 (sl 68))])
 ((.seq (.reg [.o (.move 69 (sl 5)),
 .o (.move 70 (sl 17)),
 .o (.move 18 (sl 69)),
 .o (.move 19 (sl 70)),
 .o (.move 20 (ci 1))])
 ((.seq (.seq (.reg [.o (.move 71 (sl 2)),
 .o (.bin 72 .eql (sl 71) (ci 1))])
 ((.cond (sl 72) (.reg [.o (.move 73 (sl 17)),
 .o (.move 74 (sl 5)),
 .o (.move 18 (sl 73)),
 .o (.move 19 (sl 74)),
 .o (.move 20 (ci (-1)))])
 .skip)))
 ((.seq (.draw [] [(kE, .o (.move 75 (sl 20))),
 (.r false [94], .o (.move 76 (sl 0))),
 (.r false [94], .o (.nilc 77 (sl 76))),
 (.r false [94], .o (.fld 78 0 (sl 77))),
 (.r false [94], .o (.fld 79 1 (sl 78))),
 (.r false [94], .o (.load1 80 (sl 79))),
 (.r false [94], .o (.move 81 (sl 18))),
 (.r false [94], .o (.idx 82 1 (sl 80) (sl 81))),
 (.r false [94], .o (.load1 83 (sl 82))),
 (.r false [94], .o (.move 84 (sl 19))),
 (.r false [94], .o (.idx 85 1 (sl 83) (sl 84))),
 (.r false [94], .o (.load1 86 (sl 85))),
 (kE, .o (.bin 87 .mul (sl 75) (sl 86))),
 (kR, .o (.move 88 (sl 1))),
 (kR, .o (.move 89 (sl 4))),
 (kR, .o (.move 90 (sl 2))),
 (kR, .o (.bin 91 .sub (ci 1) (sl 90))),
 (kR, .o (.move 92 (sl 18))),
 (kR, .o (.move 93 (sl 19))),
 (.h (some []) [], .o (.call (some 94) (cf 226) [(sl 88), (sl 89), (sl 91), (sl 92), (sl 93)])),
 (kR, .o (.bin 95 .mul (sl 87) (sl 94))),
 (kR, .o (.move 21 (sl 95)))])
 ((.seq (.seq (.reg [.o (.move 96 (sl 21)),
 .o (.bin 97 .eql (sl 96) (ci 0))])
 ((.cond (sl 97) (.exit 3)
 .skip)))
 ((.seq (.reg [.o (.move 98 (sl 12)),
 .o (.lenS 99 (sl 98)),
 .o (.move 100 (ci 0))])
 ((.block 4 (.loop (.seq (.reg [.o (.bin 101 .lss (sl 100) (sl 99))])
 ((.seq (.cond (sl 101) .skip
 (.exit 4))
 ((.seq (.block 5 (.seq (.reg [.o (.move 102 (sl 100)),
 .o (.idx 103 1 (sl 98) (sl 100)),
 .o (.load1 104 (sl 103)),
 .o (.move 22 (sl 102)),
 .o (.move 23 (sl 104))])
 ((.draw [] [(.r false [115], .o (.move 105 (sl 16))),
 (.r false [115], .o (.move 106 (sl 22))),
 (.r false [115], .o (.idx 107 1 (sl 105) (sl 106))),
 (.r false [115], .o (.load1 108 (sl 107))),
 (.r false [115], .o (.move 109 (sl 21))),
 (kR, .o (.move 110 (sl 1))),
 (kR, .o (.move 111 (sl 23))),
 (kR, .o (.move 112 (sl 18))),
 (kR, .o (.move 113 (sl 19))),
 (kR, .o (.move 114 (sl 13))),
 (.h (some []) [], .o (.call (some 115) (cf 180) [(sl 110), (sl 111), (sl 112), (sl 113), (sl 114)])),
 (kR, .o (.bin 116 .mul (sl 109) (sl 115))),
 (kR, .o (.bin 117 .add (sl 108) (sl 116))),
 (kR, .o (.idx 118 1 (sl 105) (sl 106))),
 (kH, .o (.store 1 (sl 118) (sl 117)))]))))
 ((.reg [.o (.bin 119 .add (sl 100) (ci 1)),
 .o (.move 100 (sl 119))]))))))))))))))))))))))
 ((.reg [.o (.bin 120 .add (sl 66) (ci 1)),
 .o (.move 66 (sl 120))])))))))))))
 ((.seq (.reg [.o (.move 121 (sl 1)),
 .o (.move 122 (sl 2)),
 .o (.nilc 123 (sl 121)),
 .o (.fld 124 5 (sl 123)),
 .o (.idxA 125 2 1 (sl 124) (sl 122)),
 .o (.load1 126 (sl 125)),
 .o (.move 127 (sl 3)),
 .o (.idx 128 1 (sl 126) (sl 127)),
 .o (.load1 129 (sl 128)),
 .o (.move 24 (sl 129))])
 ((.seq (.reg [.o (.move 25 (ci 0))])
 ((.seq (.seq (.reg [.o (.move 130 (sl 24)),
 .o (.lenS 131 (sl 130)),
 .o (.move 132 (ci 0))])
 ((.block 6 (.loop (.seq (.reg [.o (.bin 133 .lss (sl 132) (sl 131))])
 ((.seq (.cond (sl 133) .skip
 (.exit 6))
 ((.seq (.block 7 (.seq (.reg [.o (.move 134 (sl 132)),
 .o (.idx 135 1 (sl 130) (sl 132)),
 .o (.load1 136 (sl 135)),
 .o (.move 26 (sl 134)),
 .o (.move 27 (sl 136))])
 ((.reg [.o (.move 137 (sl 25)),
 .o (.move 138 (sl 27)),
 .o (.move 139 (sl 16)),
 .o (.move 140 (sl 26)),
 .o (.idx 141 1 (sl 139) (sl 140)),
 .o (.load1 142 (sl 141)),
 .o (.bin 143 .mul (sl 138) (sl 142)),
 .o (.bin 144 .add (sl 137) (sl 143)),
 .o (.move 25 (sl 144))]))))
 ((.reg [.o (.bin 145 .add (sl 132) (ci 1)),
 .o (.move 132 (sl 145))])))))))))))
 ((.seq (.reg [.o (.move 146 (sl 1)),
 .o (.move 147 (sl 4)),
 .o (.move 148 (sl 2)),
 .o (.move 149 (sl 5)),
 .o (.move 150 (sl 5)),
 .o (.call (some 151) (cf 226) [(sl 146), (sl 147), (sl 148), (sl 149), (sl 150)]),
 .o (.move 28 (sl 151))])
 ((.seq (.reg [.o (.move 152 (sl 24)),
 .o (.lenS 153 (sl 152)),
 .o (.move 154 (ci 0))])
 ((.block 8 (.loop (.seq (.reg [.o (.bin 155 .lss (sl 154) (sl 153))])
 ((.seq (.cond (sl 155) .skip
 (.exit 8))
 ((.seq (.block 9 (.seq (.reg [.o (.move 156 (sl 154)),
 .o (.idx 157 1 (sl 152) (sl 154)),
 .o (.load1 158 (sl 157)),
 .o (.move 29 (sl 156)),
 .o (.move 30 (sl 158))])
 ((.seq (.weak (.draw [] [(kR, .o (.move 159 (sl 0))),
 (kR, .o (.move 160 (sl 2))),
 (kR, .o (.nilc 161 (sl 159))),
 (kR, .o (.fld 162 3 (sl 161))),
 (kR, .o (.idxA 163 2 1 (sl 162) (sl 160))),
 (kR, .o (.load1 164 (sl 163))),
 (kR, .o (.move 165 (sl 3))),
 (kR, .o (.idx 166 1 (sl 164) (sl 165))),
 (kR, .o (.load1 167 (sl 166))),
 (kR, .o (.move 168 (sl 29))),
 (kR, .o (.idx 169 1 (sl 167) (sl 168))),
 (kR, .o (.load1 170 (sl 169))),
 (kR, .o (.move 171 (sl 16))),
 (kR, .o (.move 172 (sl 29))),
 (kR, .o (.idx 173 1 (sl 171) (sl 172))),
 (kR, .o (.load1 174 (sl 173))),
 (kR, .o (.bin 175 .mul (ci 60) (sl 174))),
 (kR, .o (.move 176 (sl 25))),
 (kR, .o (.bin 177 .sub (sl 175) (sl 176))),
 (kR, .o (.bin 178 .add (sl 170) (sl 177))),
 (kR, .o (.idx 179 1 (sl 167) (sl 168))),
 (kH, .o (.store 1 (sl 179) (sl 178)))]))
 ((.weak (.reg [.o (.move 180 (sl 0)),
 .o (.move 181 (sl 2)),
 .o (.nilc 182 (sl 180)),
 .o (.fld 183 5 (sl 182)),
 .o (.idxA 184 2 1 (sl 183) (sl 181)),
 .o (.load1 185 (sl 184)),
 .o (.move 186 (sl 3)),
 .o (.idx 187 1 (sl 185) (sl 186)),
 .o (.load1 188 (sl 187)),
 .o (.move 189 (sl 29)),
 .o (.idx 190 1 (sl 188) (sl 189)),
 .o (.load1 191 (sl 190)),
 .o (.move 192 (sl 30)),
 .o (.move 193 (sl 28)),
 .o (.bin 194 .mul (sl 192) (sl 193)),
 .o (.bin 195 .add (sl 191) (sl 194)),
 .o (.idx 196 1 (sl 188) (sl 189)),
 .o (.store 1 (sl 196) (sl 195))])))))))
 ((.reg [.o (.bin 197 .add (sl 154) (ci 1)),
 .o (.move 154 (sl 197))])))))))))))))))))))))))))))))
theorem fun___impl_regretRun__update_h {rin : List T} {args : List A} {Q : List T → T → Prop} (ha : args.length ≤ 198) (h : cW Try.prog 198 c___impl_regretRun__update_h (retP Try.prog [] rin.length Q) (St.of (enum 0 args) (enum 1000000000 rin))) :
    Fun Try.prog 210 rin args Q :=
  Fun.of (H := ⟨[(14, 1, .r false [94]), (14, 2, .r false [94]), (14, 3, .r false [94]), (14, 4, .r false [94]), (14, 5, .r false [94]), (14, 6, .r false [94]), (14, 7, .r false [94]), (14, 8, .r false [94]), (14, 9, .r false [94]), (14, 10, .r false [94]), (14, 11, .r false [94]), (14, 19, .h (some []) []), (19, 0, .r false [115]), (19, 1, .r false [115]), (19, 2, .r false [115]), (19, 3, .r false [115]), (19, 4, .r false [115]), (19, 10, .h (some []) [])], [33, 34]⟩) Try.func210 rfl rfl rfl (by kernel_rfl) ha (by decide) h

end Go.Ab

/- Contracts: strategies of a run. -/
set_option linter.unusedSimpArgs false
set_option linter.unusedVariables false
namespace Go.Ab
open Go.Proofs
def runL (B : Int) (m : List (List Int)) : Prop := m.length ≤ 400 ∧ ∀ r ∈ m, 1 ≤ r.length ∧ r.length ≤ 4 ∧ ∀ x ∈ r, -B ≤ x ∧ x ≤ B
theorem okM_runL {g : Gm} (hg : isGameB g = true) {pl B : Int} (hpl : pl = 0 ∨ pl = 1) {m : List (List Int)} (h : okM g pl B m) : runL B m := by
  have hs := sets_360 hg pl
  refine ⟨by rw [h.1]; omega, fun r hr => ?_⟩
  obtain ⟨i, hi⟩ := List.mem_iff_getElem?.1 hr
  have hil := (List.getElem?_eq_some_iff.1 hi).1
  obtain ⟨b1, b2⟩ := size_bound hg hpl (i := i) (by rw [← h.1]; exact hil)
  obtain ⟨c1, c2⟩ := h.2 i r hi
  exact ⟨by omega, by omega, c2⟩
theorem stM_take {m : List (List Int)} {i : Nat} {r : List Int} (h : m[i]? = some r) : (stM m).take (i + 1) = (stM m).take i ++ [rowP r] := take_snoc (stM_get h)
theorem posL_take {r : List Int} {k : Nat} {x : Int} (h : r[k]? = some x) : (posL r).take (k + 1) = (posL r).take k ++ [max 0 x] := take_snoc (by simp [posL, h])
theorem posL_length (r : List Int) : (posL r).length = r.length := by simp [posL]
section
attribute [-go_sem] load1C load1V fldC lenC idxC loadNV nilCheckW
set_option maxRecDepth 20000 in
theorem spec_l25Strategy_ok (pl : Int) (m : List (List Int)) {B : Int} (h : runL B m) (hB : B < 9223372036854775808) : Fun Try.prog 111 [] [.t (.i pl), .t (.sh 1 (m.map ints))] fun o r => o = [] ∧ r = .agg [.i pl, .arr 1 ((stM m).map intsO)] := by
  obtain ⟨hm, hr0⟩ := h
  refine fun_spec_l25Strategy (by simp) ?_
  simp -implicitDefEqProofs only [go_sem, evR, ints, rows, rat, rats, c_spec_l25Strategy]
  refine SemC.loopR (σ := Nat) (fun i => St.of [(0, .t (.i pl)), (1, .t (rows m)), (4, .own 4), (5, .own 95), (6, .t (.i i))] [(4, .box [.i 0, .v (.slice none 0 0)]), (95, rowsO ((stM m).take i))]) (fun i => i ≤ m.length) (fun i => m.length - i) 0 (Weak.of _ _ [some 4, some 9] (by simp) (by simp) ?_ ?_) (by omega) fun i hi R hn hr he => ?_
  · simp -implicitDefEqProofs only [ints, rows, Nat.reduceBEq, wkR, Nat.reduceEqDiff, ↓reduceIte, wrR]
  · exact ⟨⟨_, rfl, .refl _⟩, rfl, ⟨_, rfl, .refl _⟩, rfl, trivial⟩
  rcases Nat.lt_or_ge i m.length with h9 | h9
  · obtain ⟨r, hrr⟩ : ∃ r, m[i]? = some r := ⟨_, List.getElem?_eq_getElem h9⟩
    obtain ⟨r1, r2, r3⟩ := hr0 r (List.mem_of_getElem? hrr)
    have hlt : ((stM m).take i).length = i := by rw [List.length_take, stM_length]; omega
    simp -implicitDefEqProofs only [go_sem, evR, ints, rows, rat, rats, rowsO, hrr, decide_eq_true (show (i : Int) < (m.length : Int) by omega)]
    refine SemC.loopR (σ := Nat) (fun k => St.of [(0, .t (.i pl)), (1, .t (rows m)), (4, .own 4), (5, .own 95), (6, .t (.i i)), (7, .own 97), (8, .t (.i k))] [(4, .box [.i 0, .v (.slice none 0 0)]), (95, rowsO ((stM m).take i)), (97, intsO ((posL r).take k))]) (fun k => k ≤ r.length) (fun k => r.length - k) 0 (Weak.of _ _ [some 4, some 95, some 16] (by simp) (by simp) ?_ ?_) (by omega) fun k hk R2 hn2 hr2 he2 => ?_
    · simp -implicitDefEqProofs only [ints, rows, Nat.reduceBEq, wkR, Nat.reduceEqDiff, ↓reduceIte, wrR]
    · exact ⟨⟨_, rfl, .refl _⟩, rfl, ⟨_, rfl, .refl _⟩, rfl, ⟨_, rfl, .refl _⟩, rfl, trivial⟩
    rcases Nat.lt_or_ge k r.length with h8 | h8
    · obtain ⟨x, hx⟩ : ∃ x, r[k]? = some x := ⟨_, List.getElem?_eq_getElem h8⟩
      have hlk : ((posL r).take k).length = k := by rw [List.length_take, posL_length]; omega
      simp -implicitDefEqProofs only [go_sem, evR, ints, rows, rat, rats, rowsO, intsO, hrr, hx, decide_eq_true (show (k : Int) < (r.length : Int) by omega)]
      repeat (first | refine ⟨by omega, ?_⟩ | refine ⟨by rw [nd_len]; omega, ?_⟩)
      refine hn2 _ (k + 1) (Weak.of _ _ [some 4, some 95, some 36] (by simp) (by simp) ?_ ?_) (by omega) (by omega)
      · simp -implicitDefEqProofs only [ints, rows, Nat.reduceBEq, wkR, Nat.reduceEqDiff, ↓reduceIte, wrR, next64 h8 (by omega)]
      · refine ⟨⟨_, rfl, .refl _⟩, rfl, ⟨_, rfl, .refl _⟩, rfl, ⟨_, rfl, ?_⟩, rfl, trivial⟩
        rw [posL_take hx, intsO, List.map_append]; exact .refl _
    · have hlk : (posL r).take k = posL r := List.take_of_length_le (by rw [posL_length]; omega)
      simp -implicitDefEqProofs only [go_sem, evR, ints, rows, rat, rats, rowsO, intsO, hrr, hlk, decide_eq_false (show ¬ (k : Int) < (r.length : Int) by omega)]
      repeat (first | refine ⟨by omega, ?_⟩ | refine ⟨by rw [nd_len]; omega, ?_⟩)
      refine he2 _ _ ?_
      simp -implicitDefEqProofs only [go_sem, evR, ints, rows, rat, rats]
      have hpo := posL_ok r3 hB
      have hq := spec_l25Halved_ok (posL r) (by rw [posL_length]; omega) hpo
      simp only [ints, intsO] at hq
      refine CallW.res hq [97] rfl Try.call173 ?_ (.inr (intsO_noSh _)) ?_
      · simp -implicitDefEqProofs only [agR, Nat.reduceLeDiff, Nat.reduceSub, vaR, go_sem, ints, rows, rat, rats, ratsO, rtR, intsO, rowsO]
      simp -implicitDefEqProofs only [clR, Nat.reduceLeDiff, go_sem, evR, rat]
      have hq := spec_l22Parts_ok (hvd 34 (posL r)) (rowW_ok r3 hB r1 r2)
      simp only [ints, intsO] at hq
      refine CallW.res hq [39] rfl Try.call172 ?_ (.inr (intsO_noSh _)) ?_
      · simp -implicitDefEqProofs only [agR, Nat.reduceLeDiff, Nat.reduceSub, vaR, go_sem, ints, rows, rat, rats, ratsO, rtR, intsO, rowsO]
      simp -implicitDefEqProofs only [clR, Nat.reduceLeDiff, go_sem, evR, rat]
      repeat (first | refine ⟨by omega, ?_⟩ | refine ⟨by rw [nd_len]; omega, ?_⟩)
      refine hn _ (i + 1) (Weak.of _ _ [some 4, some 42] (by simp) (by simp) ?_ ?_) (by omega) (by omega)
      · simp -implicitDefEqProofs only [ints, rows, Nat.reduceBEq, wkR, Nat.reduceEqDiff, ↓reduceIte, wrR, next64 h9 (by omega)]
      · refine ⟨⟨_, rfl, .refl _⟩, rfl, ⟨_, rfl, ?_⟩, rfl, trivial⟩
        rw [stM_take hrr, rowsO, List.map_append]; exact .refl _
  · simp -implicitDefEqProofs only [go_sem, evR, ints, rows, rat, rats, rowsO, decide_eq_false (show ¬ (i : Int) < (m.length : Int) by omega)]
    refine he _ _ ?_
    simp -implicitDefEqProofs only [go_sem, evR, ints, rows, rat, rats, rowsO]
    rw [List.take_of_length_le (by rw [stM_length]; exact h9)]
set_option maxRecDepth 20000 in
theorem impl_strategyOf_ok (pl : Int) (m : List (List Int)) {B : Int} (h : runL B m) (hB : B < 9223372036854775808) : Fun Try.prog 174 [] [.t (.i pl), .t (.sh 1 (m.map ints))] fun o r => o = [] ∧ r = .agg [.i pl, .arr 1 ((stM m).map intsO)] := by
  obtain ⟨hm, hr0⟩ := h
  refine fun_impl_strategyOf_h (by simp) ?_
  simp -implicitDefEqProofs only [go_sem, evR, ints, rows, rat, rats, c_impl_strategyOf_h, opR, Nat.reduceBEq]
  refine SemC.loopR (σ := Nat) (fun i => St.of [(4, .own 4), (5, .own 5), (13, .t (rows m)), (14, .t (.i m.length)), (15, .t (.i i))] [(4, .box [.i 0, .v (.slice none 0 0)]), (5, .box [.i pl, rowsO ((stM m).take i)])]) (fun i => i ≤ m.length) (fun i => m.length - i) 0 (Weak.of _ _ [some 4, some 5] (by simp) (by simp) ?_ ?_) (by omega) fun i hi R hn hr he => ?_
  · simp -implicitDefEqProofs only [ints, rows, Nat.reduceBEq, wkR, Nat.reduceEqDiff, ↓reduceIte, wrR]
  · exact ⟨⟨_, rfl, .refl _⟩, rfl, ⟨_, rfl, .box rfl fun j h1 h2 => (match j, h1 with | 0, _ => .refl _ | 1, _ => .nilArr _)⟩, rfl, trivial⟩
  rcases Nat.lt_or_ge i m.length with h9 | h9
  · obtain ⟨r, hrr⟩ : ∃ r, m[i]? = some r := ⟨_, List.getElem?_eq_getElem h9⟩
    obtain ⟨r1, r2, r3⟩ := hr0 r (List.mem_of_getElem? hrr)
    have hlt : ((stM m).take i).length = i := by rw [List.length_take, stM_length]; omega
    have hpz : (posL r).length = (List.replicate r.length (0 : Int)).length := by rw [posL_length, List.length_replicate]
    simp -implicitDefEqProofs only [go_sem, evR, ints, rows, rat, rats, rowsO, hrr, decide_eq_true (show (i : Int) < (m.length : Int) by omega), made_one]
    repeat (first | refine ⟨by omega, ?_⟩ | refine ⟨by rw [nd_len]; omega, ?_⟩)
    refine SemC.loopR (σ := Nat) (fun k => St.of [(4, .own 4), (5, .own 5), (8, .own 97), (13, .t (rows m)), (14, .t (.i m.length)), (15, .t (.i i)), (22, .t (ints r)), (23, .t (.i r.length)), (24, .t (.i k))] [(4, .box [.i 0, .v (.slice none 0 0)]), (5, .box [.i pl, rowsO ((stM m).take i)]), (97, intsO (mixL (posL r) (List.replicate r.length 0) k))]) (fun k => k ≤ r.length) (fun k => r.length - k) 0 (Weak.of _ _ [some 4, some 5, some 21] (by simp) (by simp) ?_ ?_) (by omega) fun k hk R2 hn2 hr2 he2 => ?_
    · simp -implicitDefEqProofs only [ints, rows, Nat.reduceBEq, wkR, Nat.reduceEqDiff, ↓reduceIte, wrR]
    · refine ⟨⟨_, rfl, .refl _⟩, rfl, ⟨_, rfl, .refl _⟩, rfl, ⟨_, rfl, ?_⟩, rfl, trivial⟩
      rw [mix_zero, intsO, List.map_replicate]; exact .refl _
    rcases Nat.lt_or_ge k r.length with h8 | h8
    · obtain ⟨x, hx⟩ : ∃ x, r[k]? = some x := ⟨_, List.getElem?_eq_getElem h8⟩
      have hlk : (mixL (posL r) (List.replicate r.length 0) k).length = r.length := by rw [mix_length hpz (by simpa using hk), List.length_replicate]
      simp -implicitDefEqProofs only [go_sem, evR, ints, rows, rat, rats, rowsO, intsO, hx, hlk, decide_eq_true (show (k : Int) < (r.length : Int) by omega)]
      repeat (first | refine ⟨by omega, ?_⟩ | refine ⟨by rw [nd_len]; omega, ?_⟩)
      refine hn2 _ (k + 1) (Weak.of _ _ [some 4, some 5, some 97] (by simp) (by simp) ?_ ?_) (by omega) (by omega)
      · simp -implicitDefEqProofs only [ints, rows, Nat.reduceBEq, wkR, Nat.reduceEqDiff, ↓reduceIte, wrR, next64 h8 (by omega)]
      · refine ⟨⟨_, rfl, .refl _⟩, rfl, ⟨_, rfl, .refl _⟩, rfl, ⟨_, rfl, ?_⟩, rfl, trivial⟩
        rw [← mix_set hpz (show (posL r)[k]? = some (max 0 x) by simp [posL, hx]), intsO, List.map_set]; exact .refl _
    · have hkl : k = r.length := by omega
      have hall := mix_all hpz
      rw [List.length_replicate] at hall
      subst hkl
      rw [hall]
      simp -implicitDefEqProofs only [go_sem, evR, ints, rows, rat, rats, rowsO, intsO, decide_eq_false (show ¬ (r.length : Int) < (r.length : Int) by omega)]
      refine he2 _ _ ?_
      simp -implicitDefEqProofs only [go_sem, evR, ints, rows, rat, rats]
      refine ⟨_, Weak.open 5 1 501 rfl rfl rfl (by decide) rfl, ?_⟩
      simp -implicitDefEqProofs only [go_sem, evR, ints, rows, rat, rats, rowsO, intsO]
      repeat (first | refine ⟨by omega, ?_⟩ | refine ⟨by rw [nd_len]; omega, ?_⟩)
      have hpo := posL_ok r3 hB
      have hq := impl_halved_ok (posL r) (by intro e; have := congrArg List.length e; rw [posL_length, List.length_nil] at this; omega) (by rw [posL_length]; omega) hpo
      simp only [ints, intsO] at hq
      refine CallC.res hq [97] rfl Try.call211 (fun e R' hR => ?_) (.inr (intsO_noSh _)) ?_
      · have hq97 := (hR 97).resolve_left (by simp -implicitDefEqProofs only [go_sem, evR, ints, rows, rat, rats, not_false_eq_true])
        simp -implicitDefEqProofs only [go_sem, evR, ints, rows, rat, rats] at hq97
        simp -implicitDefEqProofs only [agR, Nat.reduceLeDiff, Nat.reduceSub, vaR, go_sem, ints, rows, rat, rats, ratsO, rtR, intsO, rowsO, hq97]
      simp -implicitDefEqProofs only [clR, Nat.reduceLeDiff, go_sem, evR, rat]
      have hq := impl_partsOf_ok (hvd 34 (posL r)) (rowW_ok r3 hB r1 r2)
      simp only [ints, intsO] at hq
      refine CallC.res hq [38] rfl Try.call193 (fun e R' hR => ?_) (.inr (intsO_noSh _)) ?_
      · have hq38 := (hR 38).resolve_left (by simp -implicitDefEqProofs only [go_sem, evR, ints, rows, rat, rats, not_false_eq_true])
        simp -implicitDefEqProofs only [go_sem, evR, ints, rows, rat, rats] at hq38
        simp -implicitDefEqProofs only [agR, Nat.reduceLeDiff, Nat.reduceSub, vaR, go_sem, ints, rows, rat, rats, ratsO, rtR, intsO, rowsO, hq38]
      simp -implicitDefEqProofs only [clR, Nat.reduceLeDiff, go_sem, evR, rat, opR, Nat.reduceBEq]
      refine ⟨⟨by omega, hn _ (i + 1) (Weak.of _ _ [some 4, some 5] (by simp) (by simp) ?_ ?_) (by omega) (by omega)⟩, ((frameOK.refl _ _ _).upd _ (.inl (by simp))).upd _ (.inr rfl)⟩
      · simp -implicitDefEqProofs only [ints, rows, Nat.reduceBEq, wkR, Nat.reduceEqDiff, ↓reduceIte, wrR, next64 h9 (by omega)]
      · refine ⟨⟨_, rfl, .refl _⟩, rfl, ⟨_, rfl, ?_⟩, rfl, trivial⟩
        rw [stM_take hrr, rowsO, List.map_append]; exact .refl _
  · simp -implicitDefEqProofs only [go_sem, evR, ints, rows, rat, rats, rowsO, decide_eq_false (show ¬ (i : Int) < (m.length : Int) by omega), opR, Nat.reduceBEq]
    refine he _ _ ?_
    simp -implicitDefEqProofs only [go_sem, evR, ints, rows, rat, rats, rowsO, opR, Nat.reduceBEq]
    rw [List.take_of_length_le (by rw [stM_length]; exact h9)]
end
end Go.Ab

/- Contracts: the state before all iterations. -/
set_option linter.unusedSimpArgs false
set_option linter.unusedVariables false
namespace Go.Ab
open Go.Proofs
def ssB (g : Gm) (x : RS) : T := .box [nodes g.nd, rows g.w, rows g.v, .arr 1 [rowsO x.r0, rowsO x.r1], .arr 1 [rowsO x.s0, rowsO x.s1]]
def rsB (g : Gm) (x : RS) : T := .box [nodes g.nd, rows g.w, rows g.v, rowsO x.r0, rowsO x.r1, rowsO x.s0, rowsO x.s1]
def ssC (g : Gm) : Nat → T
  | 0 => .v (.slice none 0 0)
  | 1 => .arr 1 [rowsO (zeroM g 0)]
  | _ => .arr 1 [rowsO (zeroM g 0), rowsO (zeroM g 1)]
theorem zeroM_take {g : Gm} {pl : Int} {i : Nat} (h : i < (sets g pl).length) : (zeroM g pl).take (i + 1) = (zeroM g pl).take i ++ [List.replicate (sizeAt g pl i) 0] := take_snoc (by simp [zeroM, h])
theorem zeroM_length (g : Gm) (pl : Int) : (zeroM g pl).length = (sets g pl).length := by simp [zeroM]
def rrC (g : Gm) (p : Int) (b : Bool) : T := if b = true then rowsO (zeroM g p) else .v (.slice none 0 0)
section
attribute [-go_sem] load1C load1V fldC lenC idxC loadNV nilCheckW
set_option maxRecDepth 20000 in
theorem spec_l25New_ok (g : Gm) (hg : isGameB g = true) : Fun Try.prog 168 [] [.t (.agg [.sh 5 (chunk nodeC g.nd), .sh 1 (g.w.map ints), .sh 1 (g.v.map ints)])] fun o r => o = [] ∧ r = ssB g (runRS g 0) := by
  obtain ⟨p1, p2, p3, p4, p5⟩ := isGameB_parts hg
  obtain ⟨t1, t2, t3, t4⟩ := isTreeB_spec p1
  have w1 : IntKind.i64.wrap 1 = 1 := rfl
  have w2' : IntKind.i64.wrap (1 + 1) = 2 := rfl
  refine fun_spec_l25New (by simp) ?_
  simp -implicitDefEqProofs only [go_sem, evR, ints, rows, rat, rats, c_spec_l25New, opR, Nat.reduceBEq]
  refine SemC.loopR (σ := Nat) (fun q => St.of [(1, .own 1), (3, .own 111), (4, .t (.i q))] [(1, .box [nodes g.nd, rows g.w, rows g.v]), (111, .box [nodes g.nd, rows g.w, rows g.v, ssC g q, ssC g q])]) (fun q => q ≤ 2) (fun q => 2 - q) 0 (Weak.of _ _ [some 1, some 11] (by simp) (by simp) ?_ ?_) (by omega) fun q hq R hn hr he => ?_
  · simp -implicitDefEqProofs only [ints, rows, Nat.reduceBEq, wkR, Nat.reduceEqDiff, ↓reduceIte, wrR, nodes]
  · exact ⟨⟨_, rfl, .refl _⟩, rfl, ⟨_, rfl, .refl _⟩, rfl, trivial⟩
  · match q, hq with
    | 0, _ =>
      have hsl := sets_360 hg 0
      simp -implicitDefEqProofs only [go_sem, evR, ints, rows, rat, rats, ssC, nodes, rowsO, decide_eq_true (show (0 : Int) < 2 by omega), Int.natCast_zero, Int.cast_ofNat_Int, opR, Nat.reduceBEq]
      have hp := spec_l22Sizes_ok g 0 t1.2 p2.2
      simp only [intsO] at hp
      refine CallW.res hp [] rfl Try.call196 ?_ (.inl rfl) ?_
      · simp -implicitDefEqProofs only [agR, Nat.reduceLeDiff, Nat.reduceSub, vaR, go_sem, ints, rows, rat, rats, ratsO, rtR, intsO, rowsO]
      simp -implicitDefEqProofs only [clR, Nat.reduceLeDiff, go_sem, evR, rat]
      refine SemC.loopR (σ := Nat) (fun i => St.of [(1, .own 1), (3, .own 111), (4, .t (.i 0)), (5, .t (ints (sizesL g 0))), (6, .own 96), (7, .own 97), (8, .t (.i i))] [(1, .box [nodes g.nd, rows g.w, rows g.v]), (111, .box [nodes g.nd, rows g.w, rows g.v, ssC g 0, ssC g 0]), (96, rowsO ((zeroM g 0).take i)), (97, rowsO ((zeroM g 0).take i))]) (fun i => i ≤ (sets g 0).length) (fun i => (sets g 0).length - i) 0 (Weak.trans (Weak.share 18 rfl) (Weak.of _ _ [some 1, some 111, some 19, some 20] (by simp) (by simp) ?_ ?_)) (by simp) fun i hi R2 hn2 hr2 he2 => ?_
      · simp -implicitDefEqProofs only [ints, rows, Nat.reduceBEq, wkR, Nat.reduceEqDiff, ↓reduceIte, wrR, shareA, T.toSh, toShL_ints, nodes]
      · exact ⟨⟨_, rfl, .refl _⟩, rfl, ⟨_, rfl, .refl _⟩, rfl, ⟨_, rfl, .refl _⟩, rfl, ⟨_, rfl, .refl _⟩, rfl, trivial⟩
      rcases Nat.lt_or_ge i (sets g 0).length with h9 | h9
      · obtain ⟨b1, b2⟩ := size_bound hg ((.inl rfl) : (0 : Int) = 0 ∨ (0 : Int) = 1) h9
        have hlt : ((zeroM g 0).take i).length = i := by rw [List.length_take, zeroM_length]; omega
        simp -implicitDefEqProofs only [go_sem, evR, ints, rows, rat, rats, nodes, rowsO, sizesL_length, sizesL_get h9, decide_eq_true (show (i : Int) < ((sets g 0).length : Int) by omega), made_one]
        repeat (first | refine ⟨by omega, ?_⟩ | refine ⟨by rw [nd_len]; omega, ?_⟩)
        refine hn2 _ (i + 1) (Weak.of _ _ [some 1, some 111, some 34, some 42] (by simp) (by simp) ?_ ?_) (by omega) (by omega)
        · simp -implicitDefEqProofs only [ints, rows, Nat.reduceBEq, wkR, Nat.reduceEqDiff, ↓reduceIte, wrR, nodes, next64 h9 (by omega)]
        · refine ⟨⟨_, rfl, .refl _⟩, rfl, ⟨_, rfl, .refl _⟩, rfl, ⟨_, rfl, ?_⟩, rfl, ⟨_, rfl, ?_⟩, rfl, trivial⟩
          · rw [zeroM_take h9, rowsO, List.map_append, List.map_cons, List.map_nil, intsO, List.map_replicate]; exact .refl _
          · rw [zeroM_take h9, rowsO, List.map_append, List.map_cons, List.map_nil, intsO, List.map_replicate]; exact .refl _
      · have hil : i = (sets g 0).length := by omega
        have hta : (zeroM g 0).take i = zeroM g 0 := List.take_of_length_le (by rw [zeroM_length]; omega)
        simp -implicitDefEqProofs only [go_sem, evR, ints, rows, rat, rats, nodes, rowsO, hta, sizesL_length, decide_eq_false (show ¬ (i : Int) < ((sets g 0).length : Int) by omega)]
        refine he2 _ _ ?_
        simp -implicitDefEqProofs only [go_sem, evR, ints, rows, rat, rats, ssC, rowsO, opR, Nat.reduceBEq]
        repeat (first | refine ⟨by omega, ?_⟩ | refine ⟨by rw [nd_len]; omega, ?_⟩)
        refine hn _ 1 (Weak.of _ _ [some 1, some 111] (by simp) (by simp) ?_ ?_) (by omega) (by omega)
        · simp -implicitDefEqProofs only [ints, rows, Nat.reduceBEq, wkR, Nat.reduceEqDiff, ↓reduceIte, wrR, nodes, Int.zero_add, w1]
        · exact ⟨⟨_, rfl, .refl _⟩, rfl, ⟨_, rfl, .refl _⟩, rfl, trivial⟩
    | 1, _ =>
      have hsl := sets_360 hg 1
      simp -implicitDefEqProofs only [go_sem, evR, ints, rows, rat, rats, ssC, nodes, rowsO, decide_eq_true (show (1 : Int) < 2 by omega), Int.natCast_zero, Int.cast_ofNat_Int, opR, Nat.reduceBEq]
      have hp := spec_l22Sizes_ok g 1 t1.2 p2.2
      simp only [intsO] at hp
      refine CallW.res hp [] rfl Try.call196 ?_ (.inl rfl) ?_
      · simp -implicitDefEqProofs only [agR, Nat.reduceLeDiff, Nat.reduceSub, vaR, go_sem, ints, rows, rat, rats, ratsO, rtR, intsO, rowsO]
      simp -implicitDefEqProofs only [clR, Nat.reduceLeDiff, go_sem, evR, rat]
      refine SemC.loopR (σ := Nat) (fun i => St.of [(1, .own 1), (3, .own 111), (4, .t (.i 1)), (5, .t (ints (sizesL g 1))), (6, .own 96), (7, .own 97), (8, .t (.i i))] [(1, .box [nodes g.nd, rows g.w, rows g.v]), (111, .box [nodes g.nd, rows g.w, rows g.v, ssC g 1, ssC g 1]), (96, rowsO ((zeroM g 1).take i)), (97, rowsO ((zeroM g 1).take i))]) (fun i => i ≤ (sets g 1).length) (fun i => (sets g 1).length - i) 0 (Weak.trans (Weak.share 18 rfl) (Weak.of _ _ [some 1, some 111, some 19, some 20] (by simp) (by simp) ?_ ?_)) (by simp) fun i hi R2 hn2 hr2 he2 => ?_
      · simp -implicitDefEqProofs only [ints, rows, Nat.reduceBEq, wkR, Nat.reduceEqDiff, ↓reduceIte, wrR, shareA, T.toSh, toShL_ints, nodes]
      · exact ⟨⟨_, rfl, .refl _⟩, rfl, ⟨_, rfl, .refl _⟩, rfl, ⟨_, rfl, .refl _⟩, rfl, ⟨_, rfl, .refl _⟩, rfl, trivial⟩
      rcases Nat.lt_or_ge i (sets g 1).length with h9 | h9
      · obtain ⟨b1, b2⟩ := size_bound hg ((.inr rfl) : (1 : Int) = 0 ∨ (1 : Int) = 1) h9
        have hlt : ((zeroM g 1).take i).length = i := by rw [List.length_take, zeroM_length]; omega
        simp -implicitDefEqProofs only [go_sem, evR, ints, rows, rat, rats, nodes, rowsO, sizesL_length, sizesL_get h9, decide_eq_true (show (i : Int) < ((sets g 1).length : Int) by omega), made_one]
        repeat (first | refine ⟨by omega, ?_⟩ | refine ⟨by rw [nd_len]; omega, ?_⟩)
        refine hn2 _ (i + 1) (Weak.of _ _ [some 1, some 111, some 34, some 42] (by simp) (by simp) ?_ ?_) (by omega) (by omega)
        · simp -implicitDefEqProofs only [ints, rows, Nat.reduceBEq, wkR, Nat.reduceEqDiff, ↓reduceIte, wrR, nodes, next64 h9 (by omega)]
        · refine ⟨⟨_, rfl, .refl _⟩, rfl, ⟨_, rfl, .refl _⟩, rfl, ⟨_, rfl, ?_⟩, rfl, ⟨_, rfl, ?_⟩, rfl, trivial⟩
          · rw [zeroM_take h9, rowsO, List.map_append, List.map_cons, List.map_nil, intsO, List.map_replicate]; exact .refl _
          · rw [zeroM_take h9, rowsO, List.map_append, List.map_cons, List.map_nil, intsO, List.map_replicate]; exact .refl _
      · have hil : i = (sets g 1).length := by omega
        have hta : (zeroM g 1).take i = zeroM g 1 := List.take_of_length_le (by rw [zeroM_length]; omega)
        simp -implicitDefEqProofs only [go_sem, evR, ints, rows, rat, rats, nodes, rowsO, hta, sizesL_length, decide_eq_false (show ¬ (i : Int) < ((sets g 1).length : Int) by omega)]
        refine he2 _ _ ?_
        simp -implicitDefEqProofs only [go_sem, evR, ints, rows, rat, rats, ssC, rowsO, opR, Nat.reduceBEq]
        repeat (first | refine ⟨by omega, ?_⟩ | refine ⟨by rw [nd_len]; omega, ?_⟩)
        refine hn _ 2 (Weak.of _ _ [some 1, some 111] (by simp) (by simp) ?_ ?_) (by omega) (by omega)
        · simp -implicitDefEqProofs only [ints, rows, Nat.reduceBEq, wkR, Nat.reduceEqDiff, ↓reduceIte, wrR, nodes, w2']
        · exact ⟨⟨_, rfl, .refl _⟩, rfl, ⟨_, rfl, .refl _⟩, rfl, trivial⟩
    | 2, _ =>
      simp -implicitDefEqProofs only [go_sem, evR, ints, rows, rat, rats, ssC, nodes, rowsO, decide_eq_false (show ¬ (2 : Int) < 2 by omega), Int.natCast_zero, Int.cast_ofNat_Int]
      refine he _ _ ?_
      simp -implicitDefEqProofs only [go_sem, evR, ints, rows, rat, rats, ssC, ssB, runRS, nodes, rowsO]
set_option maxRecDepth 20000 in
theorem impl_newRegret_ok (g : Gm) (hg : isGameB g = true) : Fun Try.prog 170 [] [.t (.agg [.sh 5 (chunk nodeC g.nd), .sh 1 (g.w.map ints), .sh 1 (g.v.map ints)])] fun o r => o = [] ∧ r = rsB g (runRS g 0) := by
  obtain ⟨p1, p2, p3, p4, p5⟩ := isGameB_parts hg
  obtain ⟨t1, t2, t3, t4⟩ := isTreeB_spec p1
  have w1 : IntKind.i64.wrap 1 = 1 := rfl
  have w2' : IntKind.i64.wrap (1 + 1) = 2 := rfl
  refine fun_impl_newRegret_h (by simp) ?_
  simp -implicitDefEqProofs only [go_sem, evR, ints, rows, rat, rats, c_impl_newRegret_h, opR, Nat.reduceBEq]
  refine SemC.loopR (σ := Nat) (fun q => St.of [(1, .own 1), (3, .own 111), (11, .t (.i q))] [(1, .box [nodes g.nd, rows g.w, rows g.v]), (111, .box [nodes g.nd, rows g.w, rows g.v, rrC g 0 (decide (0 < q)), rrC g 1 (decide (1 < q)), rrC g 0 (decide (0 < q)), rrC g 1 (decide (1 < q))])]) (fun q => q ≤ 2) (fun q => 2 - q) 0 (Weak.of _ _ [some 1, some 10] (by simp) (by simp) ?_ ?_) (by omega) fun q hq R hn hr he => ?_
  · simp -implicitDefEqProofs only [ints, rows, Nat.reduceBEq, wkR, Nat.reduceEqDiff, ↓reduceIte, wrR, nodes]
  · exact ⟨⟨_, rfl, .refl _⟩, rfl, ⟨_, rfl, .refl _⟩, rfl, trivial⟩
  · match q, hq with
    | 0, _ =>
      have hsl := sets_360 hg 0
      simp -implicitDefEqProofs only [go_sem, evR, ints, rows, rat, rats, rrC, nodes, rowsO, decide_eq_true (show (0 : Int) < 2 by omega), Nat.lt_irrefl, Nat.zero_lt_one, decide_true, decide_false, Bool.false_eq_true, Int.natCast_zero, Int.cast_ofNat_Int, opR, Nat.reduceBEq]
      have hp := infoSets_t g 0 t1.2 p2.2
      simp only [rowsO] at hp
      refine CallW.res hp [] rfl Try.call152 ?_ (.inl rfl) ?_
      · simp -implicitDefEqProofs only [agR, Nat.reduceLeDiff, Nat.reduceSub, vaR, go_sem, ints, rows, rat, rats, ratsO, rtR, intsO, rowsO]
      simp -implicitDefEqProofs only [clR, Nat.reduceLeDiff, go_sem, evR, rat]
      refine SemC.loopR (σ := Nat) (fun i => St.of [(1, .own 1), (3, .own 111), (4, .t (.i 0)), (11, .t (.i 0)), (16, .t (rows (sets g 0))), (17, .t (.i (sets g 0).length)), (18, .t (.i i))] [(1, .box [nodes g.nd, rows g.w, rows g.v]), (111, .box [nodes g.nd, rows g.w, rows g.v, rowsO ((zeroM g 0).take i), .v (.slice none 0 0), rowsO ((zeroM g 0).take i), .v (.slice none 0 0)])]) (fun i => i ≤ (sets g 0).length) (fun i => (sets g 0).length - i) 0 (Weak.trans (Weak.share 16 rfl) (Weak.of _ _ [some 1, some 111] (by simp) (by simp) ?_ ?_)) (by simp) fun i hi R2 hn2 hr2 he2 => ?_
      · simp -implicitDefEqProofs only [ints, rows, Nat.reduceBEq, wkR, Nat.reduceEqDiff, ↓reduceIte, wrR, shareA, T.toSh, toShL_intsO, nodes]
      · exact ⟨⟨_, rfl, .refl _⟩, rfl, ⟨_, rfl, .box rfl fun j h1 h2 => (match j, h1 with | 0, _ => .refl _ | 1, _ => .refl _ | 2, _ => .refl _ | 3, _ => .nilArr _ | 4, _ => .refl _ | 5, _ => .nilArr _ | 6, _ => .refl _)⟩, rfl, trivial⟩
      rcases Nat.lt_or_ge i (sets g 0).length with h9 | h9
      · obtain ⟨b1, b2⟩ := size_bound hg ((.inl rfl) : (0 : Int) = 0 ∨ (0 : Int) = 1) h9
        obtain ⟨a1, a2, a3, a4, a5, a6⟩ := set_parts h9
        obtain ⟨x, hx⟩ : ∃ x, g.nd[setN g 0 i]? = some x := ⟨_, List.getElem?_eq_getElem a2⟩
        have hxd : g.nd.getD (setN g 0 i) nd0 = x := by rw [List.getD_eq_getElem?_getD, hx]; rfl
        rw [hxd] at a5
        have hlt : ((zeroM g 0).take i).length = i := by rw [List.length_take, zeroM_length]; omega
        simp -implicitDefEqProofs only [go_sem, evR, ints, rows, rat, rats, nodes, rowsO, a1, nd_get4 hx, ← a5, decide_eq_true (show (i : Int) < ((sets g 0).length : Int) by omega), List.getElem?_cons_zero, List.getElem?_cons_succ]
        repeat (first | refine ⟨by omega, ?_⟩ | refine ⟨by rw [nd_len]; omega, ?_⟩)
        refine ⟨_, Weak.open 111 3 501 rfl rfl rfl (by decide) rfl, ?_⟩
        simp -implicitDefEqProofs only [go_sem, evR, ints, rows, rat, rats, rowsO, made_one, opR, Nat.reduceBEq]
        repeat (first | refine ⟨by omega, ?_⟩ | refine ⟨by rw [nd_len]; omega, ?_⟩)
        refine ⟨⟨by omega, ⟨by decide, ?_⟩, (((frameOK.refl _ _ _).upd _ (.inl (by simp))).upd _ (.inl (by simp))).upd _ (.inr rfl)⟩, ((frameOK.refl _ _ _).upd _ (.inl (by simp))).upd _ (.inr rfl)⟩
        refine ⟨_, Weak.open 111 5 502 rfl rfl rfl (by decide) rfl, ?_⟩
        simp -implicitDefEqProofs only [go_sem, evR, ints, rows, rat, rats, rowsO, made_one, opR, Nat.reduceBEq]
        repeat (first | refine ⟨by omega, ?_⟩ | refine ⟨by rw [nd_len]; omega, ?_⟩)
        refine ⟨⟨by omega, ⟨by decide, ?_⟩, (((frameOK.refl _ _ _).upd _ (.inl (by simp))).upd _ (.inl (by simp))).upd _ (.inr rfl)⟩, ((frameOK.refl _ _ _).upd _ (.inl (by simp))).upd _ (.inr rfl)⟩
        refine hn2 _ (i + 1) (Weak.of _ _ [some 1, some 111] (by simp) (by simp) ?_ ?_) (by omega) (by omega)
        · simp -implicitDefEqProofs only [ints, rows, Nat.reduceBEq, wkR, Nat.reduceEqDiff, ↓reduceIte, wrR, nodes, next64 h9 (by omega)]
        · refine ⟨⟨_, rfl, .refl _⟩, rfl, ⟨_, rfl, ?_⟩, rfl, trivial⟩
          simp only [zeroM_take h9, rowsO, List.map_append, List.map_cons, List.map_nil, intsO, List.map_replicate]; exact .refl _
      · have hil : i = (sets g 0).length := by omega
        have hta : (zeroM g 0).take i = zeroM g 0 := List.take_of_length_le (by rw [zeroM_length]; omega)
        simp -implicitDefEqProofs only [go_sem, evR, ints, rows, rat, rats, nodes, rowsO, hta, decide_eq_false (show ¬ (i : Int) < ((sets g 0).length : Int) by omega)]
        refine he2 _ _ ?_
        simp -implicitDefEqProofs only [go_sem, evR, ints, rows, rat, rats]
        refine hn _ 1 (Weak.of _ _ [some 1, some 111] (by simp) (by simp) ?_ ?_) (by omega) (by omega)
        · simp -implicitDefEqProofs only [ints, rows, Nat.reduceBEq, wkR, Nat.reduceEqDiff, ↓reduceIte, wrR, nodes, Int.zero_add, w1]
        · exact ⟨⟨_, rfl, .refl _⟩, rfl, ⟨_, rfl, .refl _⟩, rfl, trivial⟩
    | 1, _ =>
      have hsl := sets_360 hg 1
      simp -implicitDefEqProofs only [go_sem, evR, ints, rows, rat, rats, rrC, nodes, rowsO, decide_eq_true (show (1 : Int) < 2 by omega), Nat.lt_irrefl, Nat.zero_lt_one, decide_true, decide_false, Bool.false_eq_true, Int.natCast_zero, Int.cast_ofNat_Int, opR, Nat.reduceBEq]
      have hp := infoSets_t g 1 t1.2 p2.2
      simp only [rowsO] at hp
      refine CallW.res hp [] rfl Try.call152 ?_ (.inl rfl) ?_
      · simp -implicitDefEqProofs only [agR, Nat.reduceLeDiff, Nat.reduceSub, vaR, go_sem, ints, rows, rat, rats, ratsO, rtR, intsO, rowsO]
      simp -implicitDefEqProofs only [clR, Nat.reduceLeDiff, go_sem, evR, rat]
      refine SemC.loopR (σ := Nat) (fun i => St.of [(1, .own 1), (3, .own 111), (4, .t (.i 1)), (11, .t (.i 1)), (16, .t (rows (sets g 1))), (17, .t (.i (sets g 1).length)), (18, .t (.i i))] [(1, .box [nodes g.nd, rows g.w, rows g.v]), (111, .box [nodes g.nd, rows g.w, rows g.v, rowsO (zeroM g 0), rowsO ((zeroM g 1).take i), rowsO (zeroM g 0), rowsO ((zeroM g 1).take i)])]) (fun i => i ≤ (sets g 1).length) (fun i => (sets g 1).length - i) 0 (Weak.trans (Weak.share 16 rfl) (Weak.of _ _ [some 1, some 111] (by simp) (by simp) ?_ ?_)) (by simp) fun i hi R2 hn2 hr2 he2 => ?_
      · simp -implicitDefEqProofs only [ints, rows, Nat.reduceBEq, wkR, Nat.reduceEqDiff, ↓reduceIte, wrR, shareA, T.toSh, toShL_intsO, nodes]
      · exact ⟨⟨_, rfl, .refl _⟩, rfl, ⟨_, rfl, .box rfl fun j h1 h2 => (match j, h1 with | 0, _ => .refl _ | 1, _ => .refl _ | 2, _ => .refl _ | 3, _ => .refl _ | 4, _ => .nilArr _ | 5, _ => .refl _ | 6, _ => .nilArr _)⟩, rfl, trivial⟩
      rcases Nat.lt_or_ge i (sets g 1).length with h9 | h9
      · obtain ⟨b1, b2⟩ := size_bound hg ((.inr rfl) : (1 : Int) = 0 ∨ (1 : Int) = 1) h9
        obtain ⟨a1, a2, a3, a4, a5, a6⟩ := set_parts h9
        obtain ⟨x, hx⟩ : ∃ x, g.nd[setN g 1 i]? = some x := ⟨_, List.getElem?_eq_getElem a2⟩
        have hxd : g.nd.getD (setN g 1 i) nd0 = x := by rw [List.getD_eq_getElem?_getD, hx]; rfl
        rw [hxd] at a5
        have hlt : ((zeroM g 1).take i).length = i := by rw [List.length_take, zeroM_length]; omega
        simp -implicitDefEqProofs only [go_sem, evR, ints, rows, rat, rats, nodes, rowsO, a1, nd_get4 hx, ← a5, decide_eq_true (show (i : Int) < ((sets g 1).length : Int) by omega), List.getElem?_cons_zero, List.getElem?_cons_succ]
        repeat (first | refine ⟨by omega, ?_⟩ | refine ⟨by rw [nd_len]; omega, ?_⟩)
        refine ⟨_, Weak.open 111 4 501 rfl rfl rfl (by decide) rfl, ?_⟩
        simp -implicitDefEqProofs only [go_sem, evR, ints, rows, rat, rats, rowsO, made_one, opR, Nat.reduceBEq]
        repeat (first | refine ⟨by omega, ?_⟩ | refine ⟨by rw [nd_len]; omega, ?_⟩)
        refine ⟨⟨by omega, ⟨by decide, ?_⟩, (((frameOK.refl _ _ _).upd _ (.inl (by simp))).upd _ (.inl (by simp))).upd _ (.inr rfl)⟩, ((frameOK.refl _ _ _).upd _ (.inl (by simp))).upd _ (.inr rfl)⟩
        refine ⟨_, Weak.open 111 6 502 rfl rfl rfl (by decide) rfl, ?_⟩
        simp -implicitDefEqProofs only [go_sem, evR, ints, rows, rat, rats, rowsO, made_one, opR, Nat.reduceBEq]
        repeat (first | refine ⟨by omega, ?_⟩ | refine ⟨by rw [nd_len]; omega, ?_⟩)
        refine ⟨⟨by omega, ⟨by decide, ?_⟩, (((frameOK.refl _ _ _).upd _ (.inl (by simp))).upd _ (.inl (by simp))).upd _ (.inr rfl)⟩, ((frameOK.refl _ _ _).upd _ (.inl (by simp))).upd _ (.inr rfl)⟩
        refine hn2 _ (i + 1) (Weak.of _ _ [some 1, some 111] (by simp) (by simp) ?_ ?_) (by omega) (by omega)
        · simp -implicitDefEqProofs only [ints, rows, Nat.reduceBEq, wkR, Nat.reduceEqDiff, ↓reduceIte, wrR, nodes, next64 h9 (by omega)]
        · refine ⟨⟨_, rfl, .refl _⟩, rfl, ⟨_, rfl, ?_⟩, rfl, trivial⟩
          simp only [zeroM_take h9, rowsO, List.map_append, List.map_cons, List.map_nil, intsO, List.map_replicate]; exact .refl _
      · have hil : i = (sets g 1).length := by omega
        have hta : (zeroM g 1).take i = zeroM g 1 := List.take_of_length_le (by rw [zeroM_length]; omega)
        simp -implicitDefEqProofs only [go_sem, evR, ints, rows, rat, rats, nodes, rowsO, hta, decide_eq_false (show ¬ (i : Int) < ((sets g 1).length : Int) by omega)]
        refine he2 _ _ ?_
        simp -implicitDefEqProofs only [go_sem, evR, ints, rows, rat, rats]
        refine hn _ 2 (Weak.of _ _ [some 1, some 111] (by simp) (by simp) ?_ ?_) (by omega) (by omega)
        · simp -implicitDefEqProofs only [ints, rows, Nat.reduceBEq, wkR, Nat.reduceEqDiff, ↓reduceIte, wrR, nodes, w2']
        · exact ⟨⟨_, rfl, .refl _⟩, rfl, ⟨_, rfl, .refl _⟩, rfl, trivial⟩
    | 2, _ =>
      simp -implicitDefEqProofs only [go_sem, evR, ints, rows, rat, rats, rrC, nodes, rowsO, decide_eq_false (show ¬ (2 : Int) < 2 by omega), Int.natCast_zero, Int.cast_ofNat_Int]
      refine he _ _ ?_
      simp -implicitDefEqProofs only [go_sem, evR, ints, rows, rat, rats, rrC, rsB, runRS, nodes, rowsO]
end
end Go.Ab
