/- Where a drawn matrix has a saddle point, its entry is the matrix's value and its row is not dominated; both sides answer alike: the law FnSaddles returns true for every list of bytes. No conditions. -/
import Derived.Test.YtdleindmpgadcaaRows
import Derived.Test.YtdleindmpgadcaaQ5
/- A saddle point is a kernel of one row and one column (no program in sight). -/
set_option linter.unusedSimpArgs false
set_option linter.unusedVariables false
namespace Go.Ab
open Go.Proofs
theorem redR_one {x : Int} (h0 : -1000 ≤ x) (h1 : x ≤ 1000) : redR x 1 = ((x, 1), 0) := by
  have hg : gcdI x 1 = 1 := by simp [gcdI]
  unfold redR
  rw [hg]
  have hr : isRat (x, 1) = true := by simp [isRat, hg]; omega
  simp [hr]
theorem rat_one {x : Int} (h0 : -1000 ≤ x) (h1 : x ≤ 1000) : isRat (x, 1) = true := by
  have hg : gcdI x 1 = 1 := by simp [gcdI]
  simp [isRat, hg]; omega
theorem addR_one {x y : Int} (h0 : -400 ≤ x) (h1 : x ≤ 400) (h2 : -400 ≤ y) (h3 : y ≤ 400) : addR (x, 1) (y, 1) = ((x + y, 1), 0) := by
  rw [addR, rat_one (by omega) (by omega), rat_one (by omega) (by omega)]
  simp only [Bool.and_self, if_true, Int.mul_one]
  exact redR_one (by omega) (by omega)
theorem mulR_bit {u y : Int} (hu : u = 0 ∨ u = 1) (h2 : -400 ≤ y) (h3 : y ≤ 400) : mulR (u, 1) (y, 1) = ((u * y, 1), 0) := by
  rw [mulR, rat_one (by omega) (by omega), rat_one (by omega) (by omega)]
  simp only [Bool.and_self, if_true, Int.mul_one]
  rcases hu with rfl | rfl
  · rw [Int.zero_mul]; exact redR_one (by omega) (by omega)
  · rw [Int.one_mul]; exact redR_one (by omega) (by omega)
def dotI : List Int → List Int → Int
  | u :: us, x :: r => u * x + dotI us r
  | _, _ => 0
theorem spGo_int (K : Int) (hK : K = 400) : ∀ (us r : List Int) (s : Int), (∀ u ∈ us, u = 0 ∨ u = 1) → (∀ x ∈ r, -20 ≤ x ∧ x ≤ 20) → -(K - 20 * us.length) ≤ s → s ≤ K - 20 * us.length → spGo (s, 1) ((ones us).zip (ones r)) = ((s + dotI us r, 1), 0)
  | [], r, s, _, _, _, _ => by simp [ones, spGo, dotI]
  | u :: us, [], s, _, _, _, _ => by simp [ones, spGo, dotI]
  | u :: us, x :: r, s, hu, hx, h0, h1 => by
    have hx0 := hx x (by simp)
    have hu0 := hu u (by simp)
    simp only [List.length_cons] at h0 h1
    have hm := mulR_bit (u := u) (y := x) hu0 (by omega) (by omega)
    have hux : -20 ≤ u * x ∧ u * x ≤ 20 := by rcases hu0 with rfl | rfl <;> omega
    show spGo (s, 1) (((u, 1), (x, 1)) :: (ones us).zip (ones r)) = _
    rw [spGo, hm]
    have ha := addR_one (x := s) (y := u * x) (by omega) (by omega) (by omega) (by omega)
    simp only [ne_eq, not_true_eq_false, if_false]
    rw [ha]
    simp only [ne_eq, not_true_eq_false, if_false]
    rw [spGo_int K hK us r (s + u * x) (fun v h => hu v (by simp [h])) (fun y h => hx y (by simp [h])) (by omega) (by omega), dotI, Int.add_assoc]
theorem mixGo_int (K : Int) (hK : K = 400) : ∀ (us : List Int) (s : Int), (∀ u ∈ us, u = 0 ∨ u = 1) → -(K - 20 * us.length) ≤ s → s ≤ K - 20 * us.length → s + us.sum = 1 → mixGo (s, 1) (ones us) = true
  | [], s, _, _, _, h => by simp at h; subst h; decide
  | u :: us, s, hu, h0, h1, h => by
    have hu0 := hu u (by simp)
    simp only [List.length_cons] at h0 h1
    have ha := addR_one (x := s) (y := u) (by omega) (by omega) (by omega) (by omega)
    show mixGo (s, 1) ((u, 1) :: ones us) = true
    rw [mixGo, ha, rat_one (by omega) (by omega), mixGo_int K hK us (s + u) (fun v h => hu v (by simp [h])) (by omega) (by omega) (by simp at h; omega)]
    simp; omega
def unitI (n k : Nat) : List Int := (List.replicate n 0).set k 1
theorem unitI_length (n k : Nat) : (unitI n k).length = n := by simp [unitI]
theorem unitI_bits (n k : Nat) : ∀ u ∈ unitI n k, u = 0 ∨ u = 1 := fun u h => by
  rcases List.mem_or_eq_of_mem_set h with h | h
  · exact .inl (List.eq_of_mem_replicate h)
  · exact .inr h
theorem dotI_zero : ∀ (n : Nat) (r : List Int), dotI (List.replicate n 0) r = 0
  | 0, _ => by simp [dotI]
  | n + 1, [] => by simp [List.replicate_succ, dotI]
  | n + 1, x :: r => by simp [List.replicate_succ, dotI, dotI_zero n r]
theorem dotI_unit : ∀ (n k : Nat) (r : List Int), k < n → k < r.length → dotI (unitI n k) r = r.getD k 0
  | 0, k, r, h, _ => by omega
  | n + 1, k, [], _, h => by simp at h
  | n + 1, 0, x :: r, _, _ => by simp [unitI, List.replicate_succ, dotI, dotI_zero]
  | n + 1, k + 1, x :: r, h, h' => by
    have := dotI_unit n k r (by omega) (by simpa using h')
    simp only [unitI] at this
    simp [unitI, List.replicate_succ, dotI, this]
theorem sum_zero' (n : Nat) : (List.replicate n (0 : Int)).sum = 0 := by induction n <;> simp_all [List.replicate_succ]
theorem unitI_sum : ∀ (n k : Nat), k < n → (unitI n k).sum = 1
  | 0, k, h => by omega
  | n + 1, 0, _ => by simp [unitI, List.replicate_succ, sum_zero']
  | n + 1, k + 1, h => by
    have := unitI_sum n k (by omega)
    simp only [unitI] at this
    simp [unitI, List.replicate_succ, this]
theorem unit_mix {n k : Nat} (h : k < n) (hn : n ≤ 4) : isMixB (ones (unitI n k)) n = true := by
  rw [isMixB, mixGo_int 400 rfl _ 0 (unitI_bits n k) (by rw [unitI_length]; omega) (by rw [unitI_length]; omega) (by rw [unitI_sum n k h]; omega)]
  simp [ones_length, unitI_length]; omega
theorem unit_gains {n k : Nat} (h : k < n) (hn : n ≤ 4) : ∀ (m : List (List Int)), (∀ r ∈ m, r.length = n ∧ ∀ x ∈ r, -20 ≤ x ∧ x ≤ 20) → gainsGo (ones (unitI n k)) m = (m.map fun r => (r.getD k 0, 1), 0)
  | [], _ => rfl
  | r :: m, hm => by
    have hr := hm r (by simp)
    have hs : spR (ones (unitI n k)) (ones r) = ((r.getD k 0, 1), 0) := by
      rw [spR, spGo_int 400 rfl _ _ 0 (unitI_bits n k) hr.2 (by rw [unitI_length]; omega) (by rw [unitI_length]; omega), dotI_unit n k r h (by omega), Int.zero_add]
    rw [gainsGo, hs, unit_gains h hn m (fun x hx => hm x (by simp [hx]))]; simp
def sadSol (m : List (List Int)) (i k : Nat) : Sol := ⟨ones (unitI m.length i), ones (unitI (wid m) k), (ent m i k, 1)⟩
theorem sad_sol {m : List (List Int)} (hm : isMat m = true) {i k : Nat} (hi : i < m.length) (hk : k < wid m) (h : sad m (wid m) i k = true) : isSolB m (sadSol m i k) = true := by
  obtain ⟨m1, m2, m3, m4, m5, m6⟩ := isMat_spec hm
  simp only [sad, Bool.and_eq_true, List.all_eq_true, List.mem_range, decide_eq_true_eq] at h
  obtain ⟨h1, h2⟩ := h
  obtain ⟨row, hrow⟩ : ∃ row, m[i]? = some row := ⟨_, List.getElem?_eq_getElem hi⟩
  have hrl : row.length = wid m := m5 row (List.mem_of_getElem? hrow)
  obtain ⟨x, hx⟩ : ∃ x, row[k]? = some x := ⟨_, List.getElem?_eq_getElem (by omega)⟩
  have he := ent_get hrow hx
  have hxb := m6 row (List.mem_of_getElem? hrow) x (List.mem_of_getElem? hx)
  have g1 := unit_gains (n := wid m) (k := k) hk m4 m fun r hr => ⟨m5 r hr, m6 r hr⟩
  have g2 := unit_gains (n := m.length) (k := i) hi m2 (tr m (wid m)) fun r hr => ⟨tr_rows r hr, tr_small m6 (wid m) r hr⟩
  unfold isSolB sadSol
  simp only [g1, g2, unit_mix hi m2, unit_mix hk m4, rat_one (x := ent m i k) (by omega) (by omega)]
  simp only [Bool.and_eq_true, decide_eq_true_eq, List.all_eq_true, true_and, and_true]
  refine ⟨fun g hg => ?_, fun g hg => ?_⟩
  · obtain ⟨r, hr, rfl⟩ := List.mem_map.1 hg
    obtain ⟨j, hj, hjr⟩ := List.getElem_of_mem hr
    have := h2 j hj
    have e : ent m j k = r.getD k 0 := by rw [ent, List.getD_eq_getElem?_getD (l := m), List.getElem?_eq_getElem hj, hjr]; rfl
    rw [e] at this
    simp only [leR, Int.mul_one]; exact this
  · obtain ⟨r, hr, rfl⟩ := List.mem_map.1 hg
    obtain ⟨j, hj, rfl⟩ := List.mem_map.1 hr
    rw [List.mem_range] at hj
    have := h1 j hj
    have e : ent m i j = (colOf m j).getD i 0 := by rw [ent, List.getD_eq_getElem?_getD (l := m), hrow, colOf, List.getD_eq_getElem?_getD (l := List.map _ _), List.getElem?_map, hrow]; rfl
    rw [e] at this
    simp only [leR, Int.mul_one]; exact this
theorem ones_unit (n k : Nat) : ones (unitI n k) = (List.replicate n (0, 1)).set k (1, 1) := by simp [ones, unitI, List.map_set]
theorem sgR_one {x : Int} (h0 : -1000 ≤ x) (h1 : x ≤ 1000) : sgR x 1 = ((x, 1), 0) := by
  rw [sgR, if_neg (by omega)]; exact redR_one h0 h1
theorem sad_kernel {m : List (List Int)} (hm : isMat m = true) {i k : Nat} (hi : i < m.length) (hk : k < wid m) : kD m [(i : Int)] [(k : Int)] = 1 ∧ kernX m [(i : Int)] [(k : Int)] = sadSol m i k := by
  obtain ⟨m1, m2, m3, m4, m5, m6⟩ := isMat_spec hm
  have hB : kB m [(i : Int)] [(k : Int)] = [[ent m i k]] := by simp [kB, partM, ent]
  have hA : kA m [(i : Int)] [(k : Int)] = [[1]] := by simp [kA, hB, adjM, adjRow, sg, detN]
  have hD : kD m [(i : Int)] [(k : Int)] = 1 := by simp [kD, hA, rsum]
  have hxb : -1000 ≤ ent m i k ∧ ent m i k ≤ 1000 := by
    obtain ⟨row, hrow⟩ : ∃ row, m[i]? = some row := ⟨_, List.getElem?_eq_getElem hi⟩
    have hrl : row.length = wid m := m5 row (List.mem_of_getElem? hrow)
    obtain ⟨x, hx⟩ : ∃ x, row[k]? = some x := ⟨_, List.getElem?_eq_getElem (by omega)⟩
    have he := ent_get hrow hx
    have hxb := m6 row (List.mem_of_getElem? hrow) x (List.mem_of_getElem? hx)
    omega
  refine ⟨hD, ?_⟩
  have hdet : detN [(i : Int)].length [[ent m i k]] = ent m i k := by simp [detN, sumTo, sg]
  have hT : rsum (tr [[(1 : Int)]] [(i : Int)].length) = [1] := by simp [tr, rsum, colOf, List.range_succ]
  unfold kernX sadSol
  rw [hD, hA, hB, hdet, hT, sgR_one hxb.1 hxb.2, ones_unit, ones_unit]
  have h1 : (sgR 1 1).1 = (1, 1) := by rw [sgR_one (by omega) (by omega)]
  simp [mixK, mixI, rsum, h1]
theorem comb_one : ∀ (d : Nat) (lo : Int) (i : Nat), i < d → (comb d 1 lo)[i]? = some [lo + i]
  | 0, lo, i, h => by omega
  | d + 1, lo, 0, _ => by simp [comb, comb_zero]
  | d + 1, lo, i + 1, h => by
    have := comb_one d (lo + 1) i (by omega)
    rw [comb, comb_zero]
    simp only [List.map_cons, List.map_nil, List.cons_append, List.nil_append, List.getElem?_cons_succ]
    rw [this]; congr 2; omega
theorem sad_value {m : List (List Int)} (hm : isMat m = true) {i k : Nat} (hi : i < m.length) (hk : k < wid m) (h : sad m (wid m) i k = true) : (kerSol m).v = (ent m i k, 1) := by
  obtain ⟨m1, m2, m3, m4, m5, m6⟩ := isMat_spec hm
  obtain ⟨hD, hX⟩ := sad_kernel hm hi hk
  have hs := sad_sol hm hi hk h
  have hhit : hitB m [(i : Int)] [(k : Int)] = true := by simp [hitB, hD, hX, hs]
  have hr : [(i : Int)] ∈ comb m.length 1 0 := List.mem_of_getElem? (by rw [comb_one m.length 0 i hi, Int.zero_add])
  have hc : [(k : Int)] ∈ comb (wid m) 1 0 := List.mem_of_getElem? (by rw [comb_one (wid m) 0 k hk, Int.zero_add])
  have hf : firstF m ≠ none := by
    intro hn
    unfold firstF at hn
    rw [List.findSome?_eq_none_iff] at hn
    have h1 := hn 0 (by rw [List.mem_range]; omega)
    unfold sizeF at h1
    rw [List.findSome?_eq_none_iff] at h1
    have h2 := h1 _ hr
    unfold rowF at h2
    rw [List.findSome?_eq_none_iff] at h2
    have h3 := h2 _ hc
    simp [colF, hhit] at h3
  cases hq : firstF m with
  | none => exact absurd hq hf
  | some x =>
    obtain ⟨r, c⟩ := x
    obtain ⟨hh, -⟩ := firstF_ix hm hq
    simp only [hitB, Bool.and_eq_true] at hh
    have := sol_unique (m := m) m5 hh.2 hs
    rw [kerSol, hq]
    exact this
theorem saddle_row {m : List (List Int)} (hm : isMat m = true) {i k : Nat} (hi : i < m.length) (hk : k < wid m) (h : sad m (wid m) i k = true) : (i : Int) ∉ domL m (wid m) m.length := by
  intro hd
  simp only [domL, List.mem_map, List.mem_filter, List.mem_range] at hd
  obtain ⟨j, ⟨hj, hdj⟩, e⟩ := hd
  have : j = i := by have : (j : Int) = (i : Int) := e; omega
  subst this
  simp only [dom, List.any_eq_true, List.mem_range, beats, List.all_eq_true, decide_eq_true_eq] at hdj
  obtain ⟨q, hq, hb⟩ := hdj
  simp only [sad, Bool.and_eq_true, List.all_eq_true, List.mem_range, decide_eq_true_eq] at h
  have h1 := hb k hk
  have h2 := h.2 q hq
  omega
theorem dom_less {m : List (List Int)} (hm : isMat m = true) : (domL m (wid m) m.length).length < m.length := by
  obtain ⟨m1, m2, m3, m4, m5, m6⟩ := isMat_spec hm
  have hmax : ∀ n, 1 ≤ n → ∃ i, i < n ∧ ∀ j, j < n → ent m j 0 ≤ ent m i 0 := by
    intro n
    induction n with
    | zero => intro h; omega
    | succ n ih =>
      intro _
      rcases Nat.eq_zero_or_pos n with h0 | h0
      · exact ⟨0, by omega, fun j hj => by rw [show j = 0 by omega]; exact Int.le_refl _⟩
      · obtain ⟨i, hi, hm⟩ := ih h0
        rcases Int.le_total (ent m n 0) (ent m i 0) with h1 | h1
        · exact ⟨i, by omega, fun j hj => by rcases Nat.lt_or_ge j n with h2 | h2; exact hm j h2; rw [show j = n by omega]; exact h1⟩
        · exact ⟨n, by omega, fun j hj => by rcases Nat.lt_or_ge j n with h2 | h2; exact Int.le_trans (hm j h2) h1; rw [show j = n by omega]; exact Int.le_refl _⟩
  obtain ⟨i, hi, hmx⟩ := hmax m.length m1
  have hnd : dom m (wid m) i = false := by
    cases hd : dom m (wid m) i with
    | false => rfl
    | true =>
      simp only [dom, List.any_eq_true, List.mem_range, beats, List.all_eq_true, decide_eq_true_eq] at hd
      obtain ⟨j, hj, hb⟩ := hd
      have h1 := hb 0 (by unfold wid; omega)
      have h2 := hmx j hj
      omega
  rw [domL, List.length_map]
  have hlt := List.length_filter_lt_length_iff_exists.2 ⟨i, List.mem_range.2 hi, (by rw [hnd]; simp : ¬ dom m (wid m) i = true)⟩
  rwa [List.length_range] at hlt
theorem saddle_zero {m : List (List Int)} (h : (spRes m).2.2 = 0) : isMat m = true ∧ ∃ i k, i < m.length ∧ k < wid m ∧ sad m (wid m) i k = true ∧ spRes m = ((i : Int), (k : Int), 0) := by
  unfold spRes at h ⊢
  split at h
  · rename_i hm
    refine ⟨hm, ?_⟩
    rw [if_pos hm]
    unfold saddle at h ⊢
    split at h
    · rename_i p hp
      obtain ⟨i, k⟩ := p
      have h1 := List.find?_some hp
      have h2 := List.mem_of_find?_eq_some hp
      simp only [List.mem_flatMap, List.mem_range, List.mem_map, Prod.mk.injEq] at h2
      obtain ⟨i', hi', k', hk', rfl, rfl⟩ := h2
      exact ⟨i', k', hi', hk', h1, rfl⟩
    · simp at h
  · simp at h
end Go.Ab

/- The law FnSaddles, as a contract. -/
set_option linter.unusedSimpArgs false
set_option linter.unusedVariables false
namespace Go.Ab
open Go.Proofs
section
attribute [-go_sem] load1C load1V fldC lenC idxC loadNV
theorem spec_DrawSaddlePoint_ok (cs : List Int) (hc : bytesOK cs) (hl : cs.length ≤ 100000000000) : Fun Try.prog 31 [] [.t (bytes cs)] fun o r => ∃ x : List (List Int), o = [] ∧ r = rowsO x ∧ smallM x := by
  refine fun_spec_DrawSaddlePoint (by simp) ?_
  simp -implicitDefEqProofs only [go_sem, evR, ints, rows, rat, rats, c_spec_DrawSaddlePoint]
  refine CallW.res (spec_l01From_ok cs hc (by omega)) [] rfl Try.call61 ?_ (.inl rfl) ?_
  · simp -implicitDefEqProofs only [agR, Nat.reduceLeDiff, Nat.reduceSub, vaR, go_sem, ints, rows, rat, rats, ratsO, rtR, intsO, rowsO]
  simp -implicitDefEqProofs only [clR, Nat.reduceLeDiff, go_sem, evR, rat, srcT]
  have hs0 := seed_from (cs.take 64)
  generalize fromS (cs.take 64) = sd at hs0 ⊢
  refine CallW.exi (spec_l26Draw_ok cs hc hl (0, sd) hs0) [4] [] rfl Try.call60 (by simp) ?_ (by simp) ?_ (.inl rfl) (fun x hx => ?_)
  · simp -implicitDefEqProofs only [srR, Nat.reduceEqDiff, ↓reduceIte, ints, rows, intsO, rowsO]
  · simp -implicitDefEqProofs only [agR, Nat.reduceLeDiff, Nat.reduceSub, vaR, go_sem, ints, rows, rat, rats, ratsO, rtR, intsO, rowsO]
  simp -implicitDefEqProofs only [clR, Nat.reduceLeDiff, go_sem, evR, rat]
  exact ⟨x.1, rfl, hx.1⟩
theorem spec_DrawDominatedRows_ok (cs : List Int) (hc : bytesOK cs) (hl : cs.length ≤ 100000000000) : Fun Try.prog 34 [] [.t (bytes cs)] fun o r => ∃ x : List (List Int), o = [] ∧ r = rowsO x ∧ smallM x := by
  refine fun_spec_DrawDominatedRows (by simp) ?_
  simp -implicitDefEqProofs only [go_sem, evR, ints, rows, rat, rats, c_spec_DrawDominatedRows]
  refine CallW.res (spec_l01From_ok cs hc (by omega)) [] rfl Try.call61 ?_ (.inl rfl) ?_
  · simp -implicitDefEqProofs only [agR, Nat.reduceLeDiff, Nat.reduceSub, vaR, go_sem, ints, rows, rat, rats, ratsO, rtR, intsO, rowsO]
  simp -implicitDefEqProofs only [clR, Nat.reduceLeDiff, go_sem, evR, rat, srcT]
  have hs0 := seed_from (cs.take 64)
  generalize fromS (cs.take 64) = sd at hs0 ⊢
  refine CallW.exi (spec_l26Draw_ok cs hc hl (0, sd) hs0) [4] [] rfl Try.call60 (by simp) ?_ (by simp) ?_ (.inl rfl) (fun x hx => ?_)
  · simp -implicitDefEqProofs only [srR, Nat.reduceEqDiff, ↓reduceIte, ints, rows, intsO, rowsO]
  · simp -implicitDefEqProofs only [agR, Nat.reduceLeDiff, Nat.reduceSub, vaR, go_sem, ints, rows, rat, rats, ratsO, rtR, intsO, rowsO]
  simp -implicitDefEqProofs only [clR, Nat.reduceLeDiff, go_sem, evR, rat]
  exact ⟨x.1, rfl, hx.1⟩
theorem laws_hasInt_ok (l : List Int) (x : Int) (hl : l.length ≤ 1000000) : Pure Try.prog 40 [ints l, .i x] (.b (decide (x ∈ l))) := by
  refine fun_laws_hasInt (by simp) ?_
  simp -implicitDefEqProofs only [go_sem, evR, ints, rows, rat, rats, c_laws_hasInt]
  refine SemC.loopR (σ := Nat) (fun i => St.of [(0, .t (ints l)), (1, .t (.i x)), (5, .t (.i i))] []) (fun i => i ≤ l.length ∧ x ∉ l.take i) (fun i => l.length - i) 0 (Weak.of _ [] [] (by simp) (by simp) ?_ trivial) ⟨by omega, by simp⟩ fun i hi R hn hr he => ?_
  · simp -implicitDefEqProofs only [ints, rows, wkR, Nat.reduceEqDiff, ↓reduceIte]
  obtain ⟨hi, hx⟩ := hi
  rcases Nat.lt_or_ge i l.length with h9 | h9
  · obtain ⟨y, hy⟩ : ∃ y, l[i]? = some y := ⟨_, List.getElem?_eq_getElem h9⟩
    simp -implicitDefEqProofs only [go_sem, evR, ints, rows, rat, rats, hy, decide_eq_true (show (i : Int) < (l.length : Int) by omega)]
    refine ⟨by omega, by omega, by omega, fun h => hr _ ?_, fun h => ?_⟩
    · have : y = x := by simpa using h
      simp -implicitDefEqProofs only [go_sem, evR, ints, rows, rat, rats]
      rw [decide_eq_true (this ▸ List.mem_of_getElem? hy)]
    · have hyx : ¬ y = x := by simpa using h
      refine hn _ (i + 1) (Weak.of _ [] [] (by simp) (by simp) ?_ trivial) ⟨by omega, ?_⟩ (by omega)
      · simp -implicitDefEqProofs only [ints, rows, wkR, Nat.reduceEqDiff, ↓reduceIte, next64 h9 (by omega)]
      · rw [take_snoc hy]; simp [hx]; exact fun h => hyx h.symm
  · simp -implicitDefEqProofs only [go_sem, evR, ints, rows, rat, rats, decide_eq_false (show ¬ (i : Int) < (l.length : Int) by omega)]
    refine he _ _ ?_
    simp -implicitDefEqProofs only [go_sem, evR, ints, rows, rat, rats]
    rw [List.take_of_length_le h9] at hx
    rw [decide_eq_false hx]
set_option maxRecDepth 20000 in
theorem laws_FnSaddles_ok (cs : List Int) (hc : bytesOK cs) : Pure Try.prog 7 [bytes cs] (.b true) := by
  refine fun_laws_FnSaddles (by simp) ?_
  simp -implicitDefEqProofs only [go_sem, evR, ints, rows, rat, rats, c_laws_FnSaddles]
  refine CallW.pure (laws_big_ok cs) [] rfl Try.call30 ?_ (by first | trivial | simp [T.noSh, T.noShL, rat]) rfl ?_
  · simp -implicitDefEqProofs only [agR, Nat.reduceLeDiff, Nat.reduceSub, vaR, go_sem, ints, rows, rat, rats, ratsO, rtR, intsO, rowsO]
  simp -implicitDefEqProofs only [go_sem, evR, ints, rows, rat, rats]
  refine ⟨fun _ => trivial, fun hbig => ?_⟩
  have hl : cs.length ≤ 4096 := by have : (cs.length : Int) ≤ 4096 := by simpa using hbig
                                   omega
  refine CallW.exi (spec_DrawSaddlePoint_ok cs hc (by omega)) [] [] rfl Try.call31 (by simp) ?_ (by simp) ?_ (.inl rfl) (fun m hm => ?_)
  · simp -implicitDefEqProofs only [srR, Nat.reduceEqDiff, ↓reduceIte, ints, rows, intsO, rowsO]
  · simp -implicitDefEqProofs only [agR, Nat.reduceLeDiff, Nat.reduceSub, vaR, go_sem, ints, rows, rat, rats, ratsO, rtR, intsO, rowsO]
  simp -implicitDefEqProofs only [clR, Nat.reduceLeDiff, go_sem, evR, rat]
  have hml : m.length ≤ 1000000000000 := by have := hm.1; omega
  have hmr : ∀ r ∈ m, r.length ≤ 1000000000000 := fun r hr => by have := hm.2 r hr; omega
  refine CallW.res (impl_SaddlePoint_ok m hml hmr) [22] rfl Try.call32 ?_ (.inr (by simp [sadT, T.noSh, T.noShL])) ?_
  · simp -implicitDefEqProofs only [agR, Nat.reduceLeDiff, Nat.reduceSub, vaR, go_sem, ints, rows, rat, rats, ratsO, rtR, intsO, rowsO]
  simp -implicitDefEqProofs only [clR, Nat.reduceLeDiff, go_sem, evR, rat, sadT]
  refine CallW.res (spec_SaddlePoint_ok m) [22] rfl Try.call33 ?_ (.inr (by simp [sadT, T.noSh, T.noShL])) ?_
  · simp -implicitDefEqProofs only [agR, Nat.reduceLeDiff, Nat.reduceSub, vaR, go_sem, ints, rows, rat, rats, ratsO, rtR, intsO, rowsO]
  simp -implicitDefEqProofs only [clR, Nat.reduceLeDiff, go_sem, evR, rat, sadT]
  refine CallW.exi (spec_DrawDominatedRows_ok cs hc (by omega)) [] [] rfl Try.call34 (by simp) ?_ (by simp) ?_ (.inl rfl) (fun x hx => ?_)
  · simp -implicitDefEqProofs only [srR, Nat.reduceEqDiff, ↓reduceIte, ints, rows, intsO, rowsO]
  · simp -implicitDefEqProofs only [agR, Nat.reduceLeDiff, Nat.reduceSub, vaR, go_sem, ints, rows, rat, rats, ratsO, rtR, intsO, rowsO]
  simp -implicitDefEqProofs only [clR, Nat.reduceLeDiff, go_sem, evR, rat]
  have hxl : x.length ≤ 1000000000000 := by have := hx.1; omega
  have hxr : ∀ r ∈ x, r.length ≤ 1000000000000 := fun r hr => by have := hx.2 r hr; omega
  refine CallW.res (impl_DominatedRows_ok x hxl hxr) [36] rfl Try.call35 ?_ (.inr (drT_noSh x)) ?_
  · simp -implicitDefEqProofs only [agR, Nat.reduceLeDiff, Nat.reduceSub, vaR, go_sem, ints, rows, rat, rats, ratsO, rtR, intsO, rowsO]
  simp -implicitDefEqProofs only [clR, Nat.reduceLeDiff, go_sem, evR, rat, drT]
  refine CallW.res (spec_DominatedRows_ok x) [36] rfl Try.call36 ?_ (.inr (drT_noSh x)) ?_
  · simp -implicitDefEqProofs only [agR, Nat.reduceLeDiff, Nat.reduceSub, vaR, go_sem, ints, rows, rat, rats, ratsO, rtR, intsO, rowsO]
  simp -implicitDefEqProofs only [clR, Nat.reduceLeDiff, go_sem, evR, rat, drT, not_true_eq_false, decide_false]
  have hd1 := drRes_length x
  refine CallW.pure (laws_likeInts_ok (drRes x).1 (drRes x).1 (by omega) (by omega)) [39, 44] rfl Try.call37 ?_ (by first | trivial | simp [T.noSh, T.noShL, rat]) rfl ?_
  · simp -implicitDefEqProofs only [agR, Nat.reduceLeDiff, Nat.reduceSub, vaR, go_sem, ints, rows, rat, rats, ratsO, rtR, intsO, rowsO]
  simp -implicitDefEqProofs only [go_sem, evR, ints, rows, rat, rats, not_true_eq_false, decide_false]
  refine CallW.pure (impl_IsMatrix_ok m (by omega) hmr) [22] rfl Try.call38 ?_ (by first | trivial | simp [T.noSh, T.noShL, rat]) rfl ?_
  · simp -implicitDefEqProofs only [agR, Nat.reduceLeDiff, Nat.reduceSub, vaR, go_sem, ints, rows, rat, rats, ratsO, rtR, intsO, rowsO]
  simp -implicitDefEqProofs only [go_sem, evR, ints, rows, rat, rats]
  refine CallW.pure (spec_IsMatrix_ok m) [22] rfl Try.call39 ?_ (by first | trivial | simp [T.noSh, T.noShL, rat]) rfl ?_
  · simp -implicitDefEqProofs only [agR, Nat.reduceLeDiff, Nat.reduceSub, vaR, go_sem, ints, rows, rat, rats, ratsO, rtR, intsO, rowsO]
  simp -implicitDefEqProofs only [go_sem, evR, ints, rows, rat, rats, intsO, rowsO]
  refine ⟨fun h1 => ⟨fun h2 => absurd h2 ?_, fun _ => ?_⟩, fun h1 => ?_⟩
  · have h1 : (drRes x).2 = 0 := by simpa using h1
    have hxm : isMat x = true := by
      cases hxm : isMat x with
      | true => rfl
      | false => rw [drRes, hxm] at h1; simp at h1
    have := dom_less hxm
    have e : drRes x = (domL x (wid x) x.length, 0) := by rw [drRes, if_pos hxm]; rfl
    rw [e]; simp only []; omega
  all_goals
    refine ⟨fun _ => trivial, fun h3 => ?_⟩
    have h3 : (spRes m).2.2 = 0 := by simpa using h3
    obtain ⟨hM, i, k, hi, hk, hsad, hsp⟩ := saddle_zero h3
    obtain ⟨row, hrow⟩ : ∃ row, m[i]? = some row := ⟨_, List.getElem?_eq_getElem hi⟩
    have hrl : row.length = wid m := (isMat_spec hM).2.2.2.2.1 row (List.mem_of_getElem? hrow)
    obtain ⟨y, hy⟩ : ∃ y, row[k]? = some y := ⟨_, List.getElem?_eq_getElem (by omega)⟩
    have hv := sad_value hM hi hk hsad
    rw [ent_get hrow hy] at hv
    have hvm : vmR m = ((y, 1), 0) := by rw [vmR, if_pos hM, hv]
    have hdr : drRes m = (domL m (wid m) m.length, 0) := by rw [drRes, if_pos hM]; rfl
    have hnd := saddle_row hM hi hk hsad
    refine CallW.pure (impl_ValueOfMatrix_ok m (by omega) hmr) [22] rfl Try.call17 ?_ (by first | trivial | simp [T.noSh, T.noShL, rat]) rfl ?_
    · simp -implicitDefEqProofs only [agR, Nat.reduceLeDiff, Nat.reduceSub, vaR, go_sem, ints, rows, rat, rats, ratsO, rtR, intsO, rowsO]
    simp -implicitDefEqProofs only [go_sem, evR, ints, rows, rat, rats, redT]
    simp only [hvm, hsp]
    refine CallW.weak (Weak.trans (Weak.share 22 rfl) (Weak.of [(3, .t (rows m)), (7, .t (.i i)), (8, .t (.i k)), (15, .own 15), (16, .t (.i 0)), (95, .t (rows m))] [(15, .box [.i y, .i 1])] [some 15] (by simp) (by simp) ?_ ?_)) ?_
    · have hsh : ∀ l : List (List Int), (T.arr 1 (List.map intsO l)).toSh = T.sh 1 (List.map ints l) := rowsO_toSh
      simp -implicitDefEqProofs only [ints, rows, Nat.reduceBEq, wkR, Nat.reduceEqDiff, ↓reduceIte, wrR, shareA, hsh, rowsO_toSh]
    · exact ⟨⟨_, rfl, .refl _⟩, rfl, trivial⟩
    refine CallW.res (impl_DominatedRows_ok m hml hmr) [] rfl Try.call35 ?_ (.inl rfl) ?_
    · simp -implicitDefEqProofs only [agR, Nat.reduceLeDiff, Nat.reduceSub, vaR, go_sem, ints, rows, rat, rats, ratsO, rtR, intsO, rowsO]
    simp -implicitDefEqProofs only [clR, Nat.reduceLeDiff, go_sem, evR, rat, drT, hdr, hrow, hy, decide_true, rows, ints]
    refine ⟨fun _ => ?_, fun h => absurd h (by decide)⟩
    refine ⟨by omega, by omega, by omega, by omega, by omega, by omega, ?_⟩
    refine ⟨fun _ => ?_, fun h => absurd h (by decide)⟩
    refine CallV.pure (laws_hasInt_ok (domL m (wid m) m.length) i (by have := domL_length m (wid m) m.length; have := hm.1; omega)) [96] rfl Try.call40 (fun e R' hR => ?_) (by first | trivial | simp [T.noSh, T.noShL, rat]) (fun _ => rfl) ?_
    · have hq96 := (hR 96).resolve_left (by simp -implicitDefEqProofs only [go_sem, evR, ints, rows, rat, rats, not_false_eq_true])
      simp -implicitDefEqProofs only [go_sem, evR, ints, rows, rat, rats] at hq96
      simp -implicitDefEqProofs only [agR, Nat.reduceLeDiff, Nat.reduceSub, vaR, go_sem, ints, rows, rat, rats, ratsO, rtR, intsO, rowsO, hq96]
    simp -implicitDefEqProofs only [go_sem, evR, ints, rows, rat, rats]
    rw [decide_eq_false hnd]; rfl
end
end Go.Ab

set_option linter.unusedSimpArgs false
set_option linter.unusedVariables false
namespace Go.Proofs.Ytdleindmpgadcaa
open Go.ChangeShapes Go.WideShapes Go.ChangeAt Go.RowKit Go.Ab

namespace fnSaddles
theorem said : ∀ xs, wtL [tyU8s] xs → Pure Try.prog 7 xs (.b true)
  | [x], h => by
    obtain ⟨cs, rfl, _, hc⟩ := wt_bytes h.1
    exact laws_FnSaddles_ok cs hc
  | [], h => h.elim
  | _ :: _ :: _, h => h.2.elim

set_option maxRecDepth 100000 in
theorem lifted (os : Os) (started : os.Started) (H : Type) (enc : TypeId × Value → H) :
    ReturnsInHanded {} Try.checked os 7 .any (Rows.fnSaddlesSpec.pre6 enc Try.prog Try.f7 Rows.fnSaddlesRow.domain false) (Rows.fnSaddlesSpec.post enc Try.prog Try.f7 false true false false) := by
  refine returnsInHanded_of_change (C := Try.checked) (by kernel_rfl) started (by kernel_rfl) Try.func7
    (ChangeSpec.witness6 (enc := enc) (C := Try.checked) false ⟨#[], #[.slice none 0 0], []⟩ 8 (by kernel_rfl) (by kernel_rfl) (by kernel_rfl) (by kernel_rfl)) ?_
  intro W base args ds gs before hval hW _ _
  refine law_contract (tys := [tyU8s]) (by kernel_rfl) (by kernel_rfl) rfl (by kernel_rfl) rfl (fun ds h => ?_) said W base args ds gs before hval hW
  match ds, h with
  | [d0], _ => rfl

theorem andT {a b : Bool} (ha : a = true) (hb : b = true) : (a && b) = true := by rw [ha, hb]; rfl
theorem joined0 : ((Rows.fnSaddlesRow.wf (OpenSpec.ofChange Rows.fnSaddlesSpec))) = true := by kernel_rfl
theorem joined1 : (laidOutB Try.prog) = true := Try.laidOutT
theorem joined2 : (mapsRowed Try.prog) = true := Try.mapsRowedT
theorem joined3 : (Try.f7.params.all (Try.prog.readableRec ·)) = true := by kernel_rfl
theorem joined4 : (namedTie Try.prog Rows.fnSaddlesRow.named Rows.fnSaddlesSpec.vars) = true := by kernel_rfl
theorem joined5 : ((Rows.fnSaddlesRow.stops == [])) = true := by kernel_rfl
theorem joined6 : ((Try.prog.stops == [])) = true := by kernel_rfl
theorem joined7 : ((Rows.fnSaddlesRow.knobs == [])) = true := by kernel_rfl
theorem joined8 : ((Try.prog.stopKnobs == [])) = true := by kernel_rfl
theorem joined9 : ((Rows.fnSaddlesRow.inPlace == Try.prog.inPlace 7)) = true := by kernel_rfl
theorem joined10 : ((Rows.fnSaddlesRow.unfollowed == Try.prog.unfollowed 7)) = true := by kernel_rfl
theorem joined11 : ((Rows.fnSaddlesRow.recurses == Try.prog.recurses 7)) = true := by kernel_rfl
theorem joined12 : ((Rows.fnSaddlesRow.named == Try.prog.varsNamed 7)) = true := by kernel_rfl
theorem joined13 : ((Rows.fnSaddlesRow.maps == (Try.f7.params.toList ++ Rows.fnSaddlesSpec.plain.varTypes Try.prog).any (Try.prog.mapsRec ·))) = true := by kernel_rfl
theorem joined14 : ((Rows.fnSaddlesRow.ifaces == (Try.f7.params.toList ++ Rows.fnSaddlesSpec.plain.varTypes Try.prog).any (Try.prog.ifacesRec ·))) = true := by kernel_rfl
theorem joined15 : ((Rows.fnSaddlesRow.mapsOut == Try.prog.mapsAmong Try.f7.resultTypes.toList)) = true := by kernel_rfl
theorem joined16 : ((Rows.fnSaddlesRow.loops == (Try.f7.params.toList ++ Rows.fnSaddlesSpec.plain.varTypes Try.prog).any (Try.prog.loopsFrom ·))) = true := by kernel_rfl
theorem joined17 : ((Rows.fnSaddlesRow.wideKeys == (Try.f7.params.toList ++ Rows.fnSaddlesSpec.plain.varTypes Try.prog ++ Try.f7.resultTypes.toList).any (Try.prog.wideKeysFrom ·))) = true := by kernel_rfl
theorem joined18 : (Rows.fnSaddlesSpec.vars.all (Try.prog.varReadable ·)) = true := by kernel_rfl
theorem joined19 : (Try.f7.resultTypes.all (fun t => Try.prog.readableRec t && decide (t < Try.prog.types.size))) = true := by kernel_rfl
theorem joined20 : ((Rows.fnSaddlesRow.ifacesOut == Try.f7.resultTypes.toList.any (Try.prog.ifacesRec ·))) = true := by kernel_rfl
theorem joined21 : ((Rows.fnSaddlesRow.loopsOut == Try.f7.resultTypes.toList.any (Try.prog.loopsFrom ·))) = true := by kernel_rfl
theorem joined22 : ((Rows.fnSaddlesRow.plainKeys == Try.prog.plainKeys)) = true := by kernel_rfl
theorem joined23 : (Rows.fnSaddlesRow.shortTexts.isNone) = true := by kernel_rfl
theorem joined24 : (Try.prog.stopsHeard) = true := Try.heardT
theorem joined25 : (Try.prog.mayEnter) = true := Try.mayEnterT
theorem joined26 : ((Rows.fnSaddlesRow.lifted == Try.prog.liftsFinal)) = true := (by rw [Try.liftsF]; rfl)
theorem joined27 : ((Try.prog.make == some Rows.fnSaddlesRow.make)) = true := (by rw [Try.makeC]; rfl)
theorem joined28 : ((Rows.fnSaddlesRow.kinds == (if Rows.fnSaddlesRow.domain.isEmpty then [] else Try.f7.params.toList.map fun t => match Try.prog.underlying t with | some (.int k) => some k | _ => none))) = true := by kernel_rfl
theorem joined29 : ((Rows.fnSaddlesRow.pinned == Rows.fnSaddlesRow.pinnedBy)) = true := by kernel_rfl
theorem joined30 : ((Rows.fnSaddlesRow.veiled == (Try.f7.params.toList ++ Rows.fnSaddlesSpec.plain.varTypes Try.prog ++ Try.f7.resultTypes.toList).any (Try.prog.veiledRec ·))) = true := by kernel_rfl
theorem joined31 : (Rows.fnSaddlesRow.veiledFits Try.prog Try.f7.params.toList (Try.f7.params.toList ++ Rows.fnSaddlesSpec.plain.varTypes Try.prog ++ Try.f7.resultTypes.toList)) = true := by kernel_rfl
set_option maxRecDepth 100000 in
theorem joined : joinedFacts Try.prog 7 Try.f7 Rows.fnSaddlesSpec Rows.fnSaddlesRow = true := by
  unfold joinedFacts
  exact andT (andT (andT (andT (andT (andT (andT (andT (andT (andT (andT (andT (andT (andT (andT (andT (andT (andT (andT (andT (andT (andT (andT (andT (andT (andT (andT (andT (andT (andT (andT (joined0) joined1) joined2) joined3) joined4) joined5) joined6) joined7) joined8) joined9) joined10) joined11) joined12) joined13) joined14) joined15) joined16) joined17) joined18) joined19) joined20) joined21) joined22) joined23) joined24) joined25) joined26) joined27) joined28) joined29) joined30) joined31
theorem over : Rows.fnSaddlesRow.holds Try.pinned (OpenSpec.ofChange Rows.fnSaddlesSpec) :=
  OpenClaim.holds_of_wide 7 Try.f7 rfl rfl rfl rfl rfl rfl rfl ⟨rfl, rfl, rfl, rfl, rfl⟩ rfl rfl rfl rfl rfl (by kernel_rfl) Try.func7 joined
    (of_decide_eq_true (by kernel_rfl)) (by unfold Func.isWrapper; first | (rw [if_pos (by decide +kernel)]; kernel_rfl) | (rw [if_neg (by decide +kernel)]; exact ⟨rfl, rfl⟩))
    (fun os started H enc _ => lifted os started H enc)
end fnSaddles

theorem fnSaddles_holds : Rows.FnSaddlesSaid := fnSaddles.over
#print axioms fnSaddles_holds
end Go.Proofs.Ytdleindmpgadcaa
