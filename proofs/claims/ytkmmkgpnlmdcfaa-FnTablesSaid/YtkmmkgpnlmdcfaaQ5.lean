/- Contracts: the nodes of a player; information sets. -/
import Derived.Test.YtkmmkgpnlmdcfaaQ4
set_option linter.unusedSimpArgs false
set_option linter.unusedVariables false
namespace Go.Ab
open Go.Proofs

theorem idxs_at {l : List Nd} {i : Nat} {x : Nd} (h : l[i]? = some x) (pl : Int) : idxs l pl (i + 1) = if x.p = pl then idxs l pl i ++ [(i : Int)] else idxs l pl i := by
  rw [idxs_succ, List.getD_eq_getElem?_getD, h]; rfl
theorem idxs_length (l : List Nd) (pl : Int) (n : Nat) : (idxs l pl n).length ≤ n := by
  unfold idxs
  rw [List.length_map]
  have := List.length_filter_le (fun i => decide ((l.getD i nd0).p = pl)) (List.range n)
  simpa using this
section
attribute [-go_sem] load1C
set_option maxRecDepth 20000 in
theorem spec_l20Of_ok (l : List Nd) (pl : Int) (hl : l.length ≤ 1000000000000) : Fun Try.prog 220 [] [.t (treeT l), .t (.i pl)] fun o r => o = [] ∧ r = intsO (idxs l pl l.length) := by
  refine fun_spec_l20Of (by simp) ?_
  simp -implicitDefEqProofs only [go_sem, evR, ints, rows, rat, rats, c_spec_l20Of, treeT, nodes]
  refine SemC.loopR (σ := Nat) (fun i => St.of [(1, .t (.i pl)), (2, .own 2), (5, .own 77), (6, .t (.i i))] [(2, .box [nodes l]), (77, .arr 1 ((idxs l pl i).map T.i))]) (fun i => i ≤ l.length) (fun i => l.length - i) 0 (Weak.of _ _ [some 2, some 7] (by simp) (by simp) ?_ ?_) (by omega) fun i hi R hn hr he => ?_
  · simp -implicitDefEqProofs only [ints, rows, Nat.reduceBEq, wkR, Nat.reduceEqDiff, ↓reduceIte, wrR, nodes]
  · exact ⟨⟨_, rfl, .refl _⟩, rfl, ⟨_, rfl, .refl _⟩, rfl, trivial⟩
  · rcases Nat.lt_or_ge i l.length with h9 | h9
    · obtain ⟨x, hx⟩ : ∃ x, l[i]? = some x := ⟨_, List.getElem?_eq_getElem h9⟩
      have hil := idxs_length l pl i
      simp -implicitDefEqProofs only [go_sem, evR, ints, rows, rat, rats, nodes, nd_get0 hx, decide_eq_true (show (i : Int) < (l.length : Int) by omega)]
      refine ⟨by omega, by rw [nd_len]; omega, by rw [nd_len]; omega, fun h1 => ⟨by omega, ?_⟩, fun h1 => ?_⟩
      · have h1 : x.p = pl := by simpa using h1
        refine hn _ (i + 1) (Weak.of _ _ [some 2, some 26] (by simp) (by simp) ?_ ?_) (by omega) (by omega)
        · simp -implicitDefEqProofs only [ints, rows, Nat.reduceBEq, wkR, Nat.reduceEqDiff, ↓reduceIte, wrR, nodes, next64 h9 hl]
        · refine ⟨⟨_, rfl, .refl _⟩, rfl, ⟨_, rfl, ?_⟩, rfl, trivial⟩
          rw [idxs_at hx, if_pos h1, List.map_append]; exact .refl _
      · have h1 : ¬ x.p = pl := by simpa using h1
        refine hn _ (i + 1) (Weak.of _ _ [some 2, some 77] (by simp) (by simp) ?_ ?_) (by omega) (by omega)
        · simp -implicitDefEqProofs only [ints, rows, Nat.reduceBEq, wkR, Nat.reduceEqDiff, ↓reduceIte, wrR, nodes, next64 h9 hl]
        · refine ⟨⟨_, rfl, .refl _⟩, rfl, ⟨_, rfl, ?_⟩, rfl, trivial⟩
          rw [idxs_at hx, if_neg h1]; exact .refl _
    · simp -implicitDefEqProofs only [go_sem, evR, ints, rows, rat, rats, nodes, decide_eq_false (show ¬ (i : Int) < (l.length : Int) by omega)]
      refine he _ _ ?_
      simp -implicitDefEqProofs only [go_sem, evR, ints, rows, rat, rats]
      rw [show i = l.length by omega]; rfl
set_option maxRecDepth 20000 in
theorem impl_nodesOf_ok (l : List Nd) (pl : Int) (hl : l.length ≤ 1000000000000) : Fun Try.prog 181 [] [.t (treeT l), .t (.i pl)] fun o r => o = [] ∧ r = intsO (idxs l pl l.length) := by
  refine fun_impl_nodesOf (by simp) ?_
  simp -implicitDefEqProofs only [go_sem, evR, ints, rows, rat, rats, c_impl_nodesOf, treeT, nodes]
  refine SemC.loopR (σ := Nat) (fun i => St.of [(1, .t (.i pl)), (5, .own 77), (9, .t (nodes l)), (10, .t (.i l.length)), (11, .t (.i i))] [(77, .arr 1 ((idxs l pl i).map T.i))]) (fun i => i ≤ l.length) (fun i => l.length - i) 0 (Weak.of _ _ [none] (by simp) (by simp) ?_ ?_) (by omega) fun i hi R hn hr he => ?_
  · simp -implicitDefEqProofs only [ints, rows, Nat.reduceBEq, wkR, Nat.reduceEqDiff, ↓reduceIte, wrR, nodes, nd_len]
  · exact ⟨⟨1, rfl⟩, trivial⟩
  · rcases Nat.lt_or_ge i l.length with h9 | h9
    · obtain ⟨x, hx⟩ : ∃ x, l[i]? = some x := ⟨_, List.getElem?_eq_getElem h9⟩
      have hil := idxs_length l pl i
      simp -implicitDefEqProofs only [go_sem, evR, ints, rows, rat, rats, nodes, nd_at hx, decide_eq_true (show (i : Int) < (l.length : Int) by omega)]
      refine ⟨by omega, by rw [nd_len]; omega, by rw [nd_len]; omega, fun h1 => ⟨by omega, ?_⟩, fun h1 => ?_⟩
      · have h1 : x.p = pl := by simpa using h1
        refine hn _ (i + 1) (Weak.of _ _ [some 23] (by simp) (by simp) ?_ ?_) (by omega) (by omega)
        · simp -implicitDefEqProofs only [ints, rows, Nat.reduceBEq, wkR, Nat.reduceEqDiff, ↓reduceIte, wrR, nodes, next64 h9 hl]
        · refine ⟨⟨_, rfl, ?_⟩, rfl, trivial⟩
          rw [idxs_at hx, if_pos h1, List.map_append]; exact .refl _
      · have h1 : ¬ x.p = pl := by simpa using h1
        refine hn _ (i + 1) (Weak.of _ _ [some 77] (by simp) (by simp) ?_ ?_) (by omega) (by omega)
        · simp -implicitDefEqProofs only [ints, rows, Nat.reduceBEq, wkR, Nat.reduceEqDiff, ↓reduceIte, wrR, nodes, next64 h9 hl]
        · refine ⟨⟨_, rfl, ?_⟩, rfl, trivial⟩
          rw [idxs_at hx, if_neg h1]; exact .refl _
    · simp -implicitDefEqProofs only [go_sem, evR, ints, rows, rat, rats, nodes, decide_eq_false (show ¬ (i : Int) < (l.length : Int) by omega)]
      refine he _ _ ?_
      simp -implicitDefEqProofs only [go_sem, evR, ints, rows, rat, rats]
      rw [show i = l.length by omega]; rfl
def setsP (ns : List Int) (k i c : Nat) : List (List Int) := setsOf (ns.take i) k ++ (List.range c).map fun a : Nat => [ns.getD i 0, (a : Int)]
theorem setsP_zero (ns : List Int) (k i : Nat) : setsP ns k i 0 = setsOf (ns.take i) k := by simp [setsP]
theorem setsP_snoc (ns : List Int) (k i c : Nat) : setsP ns k i (c + 1) = setsP ns k i c ++ [[ns.getD i 0, (c : Int)]] := by simp [setsP, List.range_succ]
theorem setsP_next {ns : List Int} {k i : Nat} {n : Int} (h : ns[i]? = some n) : setsP ns k i k = setsP ns k (i + 1) 0 := by
  rw [setsP_zero, take_snoc h, setsOf_snoc, setsP, List.getD_eq_getElem?_getD, h]; rfl
theorem setsP_length (ns : List Int) (k i c : Nat) : (setsP ns k i c).length ≤ ns.length * k + c := by
  rw [setsP, List.length_append, setsOf_length, List.length_map, List.length_range, List.length_take]
  have : Nat.min i ns.length * k ≤ ns.length * k := Nat.mul_le_mul_right _ (Nat.min_le_right _ _)
  have e : min i ns.length = Nat.min i ns.length := rfl
  rw [e]; omega
theorem setsP_all (ns : List Int) (k : Nat) : setsP ns k ns.length 0 = setsOf ns k := by rw [setsP_zero, List.take_length]
theorem spec_l20Of_t (l : List Nd) (pl : Int) (hl : l.length ≤ 1000000000000) : Fun Try.prog 220 [] [.t (.agg [.sh 5 (chunk nodeC l)]), .t (.i pl)] fun o r => o = [] ∧ r = intsO (idxs l pl l.length) := spec_l20Of_ok l pl hl
theorem impl_nodesOf_t (l : List Nd) (pl : Int) (hl : l.length ≤ 1000000000000) : Fun Try.prog 181 [] [.t (.agg [.sh 5 (chunk nodeC l)]), .t (.i pl)] fun o r => o = [] ∧ r = intsO (idxs l pl l.length) := impl_nodesOf_ok l pl hl
set_option maxRecDepth 20000 in
theorem spec_l21Sets_ok (g : Gm) (pl : Int) (hl : g.nd.length ≤ 60) (hk : g.w.length ≤ 6) : Fun Try.prog 186 [] [.t (gameT g), .t (.i pl)] fun o r => o = [] ∧ r = rowsO (sets g pl) := by
  refine fun_spec_l21Sets (by simp) ?_
  simp -implicitDefEqProofs only [go_sem, evR, ints, rows, rat, rats, c_spec_l21Sets, gameT, nodes]
  refine CallW.res (spec_l20Of_t g.nd pl (by omega)) [] rfl Try.call220 ?_ (.inl rfl) ?_
  · simp -implicitDefEqProofs only [agR, Nat.reduceLeDiff, Nat.reduceSub, vaR, go_sem, ints, rows, rat, rats, ratsO, rtR, intsO, rowsO]
  simp -implicitDefEqProofs only [clR, Nat.reduceLeDiff, go_sem, evR, rat]
  have hns := idxs_length g.nd pl g.nd.length
  have hsets : sets g pl = setsOf (idxs g.nd pl g.nd.length) g.w.length := rfl
  rw [hsets]
  generalize idxs g.nd pl g.nd.length = ns at hns ⊢
  refine SemC.loopR (σ := Nat) (fun i => St.of [(2, .own 2), (5, .own 12), (6, .own 77), (7, .t (.i i))] [(2, .box [nodes g.nd, rows g.w, rows g.v]), (12, intsO ns), (77, .arr 1 ((setsP ns g.w.length i 0).map intsO))]) (fun i => i ≤ ns.length) (fun i => ns.length - i) 0 (Weak.of _ _ [some 2, some 12, some 13] (by simp) (by simp) ?_ ?_) (by omega) fun i hi R hn hr he => ?_
  · simp -implicitDefEqProofs only [ints, rows, Nat.reduceBEq, wkR, Nat.reduceEqDiff, ↓reduceIte, wrR, nodes]
  · exact ⟨⟨_, rfl, .refl _⟩, rfl, ⟨_, rfl, .refl _⟩, rfl, ⟨_, rfl, .refl _⟩, rfl, trivial⟩
  · rcases Nat.lt_or_ge i ns.length with h9 | h9
    · obtain ⟨n, hx⟩ : ∃ n, ns[i]? = some n := ⟨_, List.getElem?_eq_getElem h9⟩
      simp -implicitDefEqProofs only [go_sem, evR, ints, rows, rat, rats, nodes, intsO, decide_eq_true (show (i : Int) < (ns.length : Int) by omega)]
      refine SemC.loopR (σ := Nat) (fun c => St.of [(2, .own 2), (5, .own 12), (6, .own 77), (7, .t (.i i)), (8, .t (.i c))] [(2, .box [nodes g.nd, rows g.w, rows g.v]), (12, intsO ns), (77, .arr 1 ((setsP ns g.w.length i c).map intsO))]) (fun c => c ≤ g.w.length) (fun c => g.w.length - c) 0 (Weak.of _ _ [some 2, some 12, some 77] (by simp) (by simp) ?_ ?_) (by omega) fun c hc R2 hn2 hr2 he2 => ?_
      · simp -implicitDefEqProofs only [ints, rows, Nat.reduceBEq, wkR, Nat.reduceEqDiff, ↓reduceIte, wrR, nodes]
      · exact ⟨⟨_, rfl, .refl _⟩, rfl, ⟨_, rfl, .refl _⟩, rfl, ⟨_, rfl, .refl _⟩, rfl, trivial⟩
      · rcases Nat.lt_or_ge c g.w.length with h8 | h8
        · have hil := setsP_length ns g.w.length i c
          simp -implicitDefEqProofs only [go_sem, evR, ints, rows, rat, rats, nodes, intsO, hx, decide_eq_true (show (c : Int) < (g.w.length : Int) by omega)]
          have hmul : ns.length * g.w.length ≤ 60 * 6 := Nat.mul_le_mul (by omega) hk
          refine ⟨by omega, by omega, by omega, by omega, hn2 _ (c + 1) (Weak.of _ _ [some 2, some 12, some 35] (by simp) (by simp) ?_ ?_) (by omega) (by omega)⟩
          · simp -implicitDefEqProofs only [ints, rows, Nat.reduceBEq, wkR, Nat.reduceEqDiff, ↓reduceIte, wrR, nodes, next64 h8 (by omega)]
          · refine ⟨⟨_, rfl, .refl _⟩, rfl, ⟨_, rfl, .refl _⟩, rfl, ⟨_, rfl, ?_⟩, rfl, trivial⟩
            rw [setsP_snoc, List.map_append, List.getD_eq_getElem?_getD, hx]; exact .refl _
        · simp -implicitDefEqProofs only [go_sem, evR, ints, rows, rat, rats, nodes, decide_eq_false (show ¬ (c : Int) < (g.w.length : Int) by omega)]
          refine he2 _ _ ?_
          simp -implicitDefEqProofs only [go_sem, evR, ints, rows, rat, rats]
          refine hn _ (i + 1) (Weak.of _ _ [some 2, some 12, some 77] (by simp) (by simp) ?_ ?_) (by omega) (by omega)
          · simp -implicitDefEqProofs only [ints, rows, Nat.reduceBEq, wkR, Nat.reduceEqDiff, ↓reduceIte, wrR, nodes, next64 h9 (by omega)]
          · refine ⟨⟨_, rfl, .refl _⟩, rfl, ⟨_, rfl, .refl _⟩, rfl, ⟨_, rfl, ?_⟩, rfl, trivial⟩
            rw [show c = g.w.length by omega, setsP_next hx]; exact .refl _
    · simp -implicitDefEqProofs only [go_sem, evR, ints, rows, rat, rats, nodes, intsO, decide_eq_false (show ¬ (i : Int) < (ns.length : Int) by omega)]
      refine he _ _ ?_
      simp -implicitDefEqProofs only [go_sem, evR, ints, rows, rat, rats]
      rw [show i = ns.length by omega, setsP_all]; rfl
set_option maxRecDepth 20000 in
theorem impl_infoSets_ok (g : Gm) (pl : Int) (hl : g.nd.length ≤ 60) (hk : g.w.length ≤ 6) : Fun Try.prog 152 [] [.t (gameT g), .t (.i pl)] fun o r => o = [] ∧ r = rowsO (sets g pl) := by
  refine fun_impl_infoSets (by simp) ?_
  simp -implicitDefEqProofs only [go_sem, evR, ints, rows, rat, rats, c_impl_infoSets, gameT, nodes]
  refine CallW.res (impl_nodesOf_t g.nd pl (by omega)) [] rfl Try.call181 ?_ (.inl rfl) ?_
  · simp -implicitDefEqProofs only [agR, Nat.reduceLeDiff, Nat.reduceSub, vaR, go_sem, ints, rows, rat, rats, ratsO, rtR, intsO, rowsO]
  simp -implicitDefEqProofs only [clR, Nat.reduceLeDiff, go_sem, evR, rat, intsO]
  have hns := idxs_length g.nd pl g.nd.length
  have hsets : sets g pl = setsOf (idxs g.nd pl g.nd.length) g.w.length := rfl
  rw [hsets]
  generalize idxs g.nd pl g.nd.length = ns at hns ⊢
  refine SemC.loopR (σ := Nat) (fun i => St.of [(2, .own 2), (5, .own 77), (12, .own 12), (13, .t (.i ns.length)), (14, .t (.i i))] [(2, .box [nodes g.nd, rows g.w, rows g.v]), (12, intsO ns), (77, .arr 1 ((setsP ns g.w.length i 0).map intsO))]) (fun i => i ≤ ns.length) (fun i => ns.length - i) 0 (Weak.of _ _ [some 2, some 12, none] (by simp) (by simp) ?_ ?_) (by omega) fun i hi R hn hr he => ?_
  · simp -implicitDefEqProofs only [ints, rows, Nat.reduceBEq, wkR, Nat.reduceEqDiff, ↓reduceIte, wrR, nodes]
  · exact ⟨⟨_, rfl, .refl _⟩, rfl, ⟨_, rfl, .refl _⟩, rfl, ⟨1, rfl⟩, trivial⟩
  · rcases Nat.lt_or_ge i ns.length with h9 | h9
    · obtain ⟨n, hx⟩ : ∃ n, ns[i]? = some n := ⟨_, List.getElem?_eq_getElem h9⟩
      simp -implicitDefEqProofs only [go_sem, evR, ints, rows, rat, rats, nodes, intsO, hx, decide_eq_true (show (i : Int) < (ns.length : Int) by omega)]
      refine ⟨by omega, by omega, by omega, ?_⟩
      refine SemC.loopR (σ := Nat) (fun c => St.of [(2, .own 2), (5, .own 77), (7, .t (.i n)), (12, .own 12), (13, .t (.i ns.length)), (14, .t (.i i)), (20, .t (.i g.w.length)), (21, .t (.i c))] [(2, .box [nodes g.nd, rows g.w, rows g.v]), (12, intsO ns), (77, .arr 1 ((setsP ns g.w.length i c).map intsO))]) (fun c => c ≤ g.w.length) (fun c => g.w.length - c) 0 (Weak.of _ _ [some 2, some 12, some 77] (by simp) (by simp) ?_ ?_) (by omega) fun c hc R2 hn2 hr2 he2 => ?_
      · simp -implicitDefEqProofs only [ints, rows, Nat.reduceBEq, wkR, Nat.reduceEqDiff, ↓reduceIte, wrR, nodes]
      · exact ⟨⟨_, rfl, .refl _⟩, rfl, ⟨_, rfl, .refl _⟩, rfl, ⟨_, rfl, .refl _⟩, rfl, trivial⟩
      · rcases Nat.lt_or_ge c g.w.length with h8 | h8
        · have hil := setsP_length ns g.w.length i c
          simp -implicitDefEqProofs only [go_sem, evR, ints, rows, rat, rats, nodes, intsO, decide_eq_true (show (c : Int) < (g.w.length : Int) by omega)]
          have hmul : ns.length * g.w.length ≤ 60 * 6 := Nat.mul_le_mul (by omega) hk
          refine ⟨by omega, hn2 _ (c + 1) (Weak.of _ _ [some 2, some 12, some 29] (by simp) (by simp) ?_ ?_) (by omega) (by omega)⟩
          · simp -implicitDefEqProofs only [ints, rows, Nat.reduceBEq, wkR, Nat.reduceEqDiff, ↓reduceIte, wrR, nodes, next64 h8 (by omega)]
          · refine ⟨⟨_, rfl, .refl _⟩, rfl, ⟨_, rfl, .refl _⟩, rfl, ⟨_, rfl, ?_⟩, rfl, trivial⟩
            rw [setsP_snoc, List.map_append, List.getD_eq_getElem?_getD, hx]; exact .refl _
        · simp -implicitDefEqProofs only [go_sem, evR, ints, rows, rat, rats, nodes, decide_eq_false (show ¬ (c : Int) < (g.w.length : Int) by omega)]
          refine he2 _ _ ?_
          simp -implicitDefEqProofs only [go_sem, evR, ints, rows, rat, rats]
          refine hn _ (i + 1) (Weak.of _ _ [some 2, some 12, some 77] (by simp) (by simp) ?_ ?_) (by omega) (by omega)
          · simp -implicitDefEqProofs only [ints, rows, Nat.reduceBEq, wkR, Nat.reduceEqDiff, ↓reduceIte, wrR, nodes, next64 h9 (by omega)]
          · refine ⟨⟨_, rfl, .refl _⟩, rfl, ⟨_, rfl, .refl _⟩, rfl, ⟨_, rfl, ?_⟩, rfl, trivial⟩
            rw [show c = g.w.length by omega, setsP_next hx]; exact .refl _
    · simp -implicitDefEqProofs only [go_sem, evR, ints, rows, rat, rats, nodes, intsO, decide_eq_false (show ¬ (i : Int) < (ns.length : Int) by omega)]
      refine he _ _ ?_
      simp -implicitDefEqProofs only [go_sem, evR, ints, rows, rat, rats]
      rw [show i = ns.length by omega, setsP_all]; rfl
end
end Go.Ab

/- Contracts: valid strategies. -/
set_option linter.unusedSimpArgs false
set_option linter.unusedVariables false
namespace Go.Ab
open Go.Proofs

theorem set_elem {g : Gm} {pl : Int} {i : Nat} (h : i < (sets g pl).length) : ∃ (n c : Nat) (x : Nd), (sets g pl)[i]? = some [(n : Int), (c : Int)] ∧ g.nd[n]? = some x ∧ n < g.nd.length ∧ c < g.w.length ∧ x.p = pl ∧ sizeAt g pl i = x.ch.length := by
  have hg := List.getElem?_eq_getElem h
  obtain ⟨n0, hn0, c, hc, e⟩ := setsOf_mem (List.getElem_mem h)
  obtain ⟨n, rfl, hn, hp⟩ := idxs_mem hn0
  rw [e] at hg
  have hx : g.nd[n]? = some g.nd[n] := List.getElem?_eq_getElem hn
  have hd : g.nd.getD n nd0 = g.nd[n] := by rw [List.getD_eq_getElem?_getD, hx]; rfl
  refine ⟨n, c, g.nd[n], hg, hx, hn, hc, by rw [← hd]; exact hp, ?_⟩
  have e0 : (sets g pl).getD i [] = [(n : Int), (c : Int)] := by rw [List.getD_eq_getElem?_getD, hg]; rfl
  rw [sizeAt, e0, ← hd]; rfl
theorem isStratB_iff {g : Gm} {pl : Int} {pt : List (List Int)} : isStratB g pl pt = true ↔ pt.length = (sets g pl).length ∧ ∀ i, i < (sets g pl).length → partOK (sizeAt g pl i) (pt.getD i []) = true := by
  simp only [isStratB, Bool.and_eq_true, decide_eq_true_eq, List.all_eq_true, List.mem_range]
theorem partOK_iff {n : Nat} {l : List Int} : partOK n l = true ↔ l.length = n ∧ (l.all fun x => decide (0 ≤ x ∧ x ≤ 60)) = true ∧ l.sum = 60 := by
  simp only [partOK, Bool.and_eq_true, decide_eq_true_eq, sumI_eq, and_assoc]
theorem sets_len (g : Gm) (pl : Int) (hl : g.nd.length ≤ 60) (hk : g.w.length ≤ 6) : (sets g pl).length ≤ 360 := by
  rw [sets_length]
  have := idxs_length g.nd pl g.nd.length
  have : (idxs g.nd pl g.nd.length).length * g.w.length ≤ 60 * 6 := Nat.mul_le_mul (by omega) hk
  omega
theorem infoSets_t (g : Gm) (pl : Int) (hl : g.nd.length ≤ 60) (hk : g.w.length ≤ 6) : Fun Try.prog 152 [] [.t (.agg [.sh 5 (chunk nodeC g.nd), .sh 1 (g.w.map ints), .sh 1 (g.v.map ints)]), .t (.i pl)] fun o r => o = [] ∧ r = rowsO (sets g pl) := impl_infoSets_ok g pl hl hk
theorem l21Sets_t (g : Gm) (pl : Int) (hl : g.nd.length ≤ 60) (hk : g.w.length ≤ 6) : Fun Try.prog 186 [] [.t (.agg [.sh 5 (chunk nodeC g.nd), .sh 1 (g.w.map ints), .sh 1 (g.v.map ints)]), .t (.i pl)] fun o r => o = [] ∧ r = rowsO (sets g pl) := spec_l21Sets_ok g pl hl hk
section
attribute [-go_sem] load1C load1V fldC lenC idxC loadNV
end
end Go.Ab

/- Contracts: valid strategies, exported. -/
set_option linter.unusedSimpArgs false
set_option linter.unusedVariables false
namespace Go.Ab
open Go.Proofs

section
attribute [-go_sem] load1C load1V fldC lenC idxC loadNV
theorem isGame_t {f : FuncId} {g : Gm} {b : Bool} (h : Pure Try.prog f [gameT g] (.b b)) : Pure Try.prog f [.agg [.sh 5 (chunk nodeC g.nd), .sh 1 (g.w.map ints), .sh 1 (g.v.map ints)]] (.b b) := h
end
end Go.Ab

/- Contracts: payoffs, powers, units, places of sets. -/
set_option linter.unusedSimpArgs false
set_option linter.unusedVariables false
namespace Go.Ab
open Go.Proofs

theorem pay_eq {g : Gm} {i a b : Nat} {x : Nd} {r : List Int} {y : Int} (hx : g.nd[i]? = some x) (hr : g.v[a]? = some r) (hy : r[b]? = some y) : pay g i a b = if (if x.f = 0 then -1 else if x.f = 1 then 1 else y) = 1 then x.b else if (if x.f = 0 then -1 else if x.f = 1 then 1 else y) = -1 then -x.a else 0 := by
  have e1 : g.nd.getD i nd0 = x := by rw [List.getD_eq_getElem?_getD, hx]; rfl
  have e2 : (g.v.getD a []).getD b 0 = y := by rw [List.getD_eq_getElem?_getD, List.getD_eq_getElem?_getD, hr, Option.getD_some, hy]; rfl
  rw [pay, e1, e2]
theorem game_row {g : Gm} (hg : isGameB g = true) {a b : Nat} (ha : a < g.w.length) (hb : b < g.w.length) : ∃ r y, g.v[a]? = some r ∧ r[b]? = some y := by
  obtain ⟨h1, h2⟩ := matK_iff.1 (isGameB_parts hg).2.2.2.1
  have hx := List.getElem?_eq_getElem (show a < g.v.length by omega)
  have h3 := (h2 _ (List.getElem_mem (show a < g.v.length by omega))).1
  exact ⟨_, _, hx, List.getElem?_eq_getElem (by omega)⟩
theorem game_w {g : Gm} (hg : isGameB g = true) {a b : Nat} (ha : a < g.w.length) (hb : b < g.w.length) : ∃ r y, g.w[a]? = some r ∧ r[b]? = some y ∧ 0 ≤ y ∧ y ≤ 9 := by
  obtain ⟨h1, h2⟩ := matK_iff.1 (isGameB_parts hg).2.2.1
  have hx := List.getElem?_eq_getElem ha
  obtain ⟨h3, h4⟩ := h2 _ (List.getElem_mem ha)
  have hl : b < g.w[a].length := by omega
  exact ⟨_, _, hx, List.getElem?_eq_getElem hl, h4 _ (List.getElem_mem hl)⟩
theorem pw_le : ∀ {p q : Nat}, p ≤ q → pw p ≤ pw q := by
  intro p q h
  induction h with
  | refl => exact Int.le_refl _
  | step h ih => rw [pw_succ]; have := pw_pos (p := ‹Nat›); omega
section
attribute [-go_sem] load1C load1V fldC lenC idxC loadNV
set_option maxRecDepth 20000 in
theorem impl_payoffAt_ok (g : Gm) (hg : isGameB g = true) (i a b : Nat) (hi : i < g.nd.length) (ha : a < g.w.length) (hb : b < g.w.length) : Pure Try.prog 213 [gameT g, .i i, .i a, .i b] (.i (pay g i a b)) := by
  obtain ⟨p1, p2, p3, p4, p5⟩ := isGameB_parts hg
  obtain ⟨t1, t2, t3, t4⟩ := isTreeB_spec p1
  obtain ⟨x, hx⟩ : ∃ x, g.nd[i]? = some x := ⟨_, List.getElem?_eq_getElem hi⟩
  obtain ⟨r, y, hr, hy⟩ := game_row hg ha hb
  have hf := ndOK_fields (t2 _ _ hx)
  have hal := (List.getElem?_eq_some_iff.1 hr).1
  have hbl := (List.getElem?_eq_some_iff.1 hy).1
  rw [pay_eq hx hr hy]
  refine fun_impl_payoffAt (by simp) ?_
  simp -implicitDefEqProofs only [go_sem, evR, ints, rows, rat, rats, c_impl_payoffAt, gameT, nodes, nd_at hx, hr, hy]
  refine ⟨by omega, by rw [nd_len]; omega, by rw [nd_len]; omega, by omega, by omega, by omega, by omega, by omega, by omega, ?_⟩
  rw [wrap64 (n := 0 - x.a) (by omega) (by omega), Int.zero_sub]
  by_cases h0 : x.f = 0
  · simp [h0]
  · by_cases h1 : x.f = 1
    · simp [h1]
    · by_cases h2 : y = 1
      · simp [h0, h1, h2]
      · by_cases h3 : y = -1 <;> simp [h0, h1, h2, h3]
set_option maxRecDepth 20000 in
theorem spec_l21Payoff_ok (g : Gm) (hg : isGameB g = true) (i a b : Nat) (hi : i < g.nd.length) (ha : a < g.w.length) (hb : b < g.w.length) : Pure Try.prog 215 [gameT g, .i i, .i a, .i b] (.i (pay g i a b)) := by
  obtain ⟨p1, p2, p3, p4, p5⟩ := isGameB_parts hg
  obtain ⟨t1, t2, t3, t4⟩ := isTreeB_spec p1
  obtain ⟨x, hx⟩ : ∃ x, g.nd[i]? = some x := ⟨_, List.getElem?_eq_getElem hi⟩
  obtain ⟨r, y, hr, hy⟩ := game_row hg ha hb
  have hf := ndOK_fields (t2 _ _ hx)
  have hal := (List.getElem?_eq_some_iff.1 hr).1
  have hbl := (List.getElem?_eq_some_iff.1 hy).1
  rw [pay_eq hx hr hy]
  refine fun_spec_l21Payoff (by simp) ?_
  simp -implicitDefEqProofs only [go_sem, evR, ints, rows, rat, rats, c_spec_l21Payoff, gameT, nodes, nd_at hx, hr, hy]
  refine ⟨by omega, by rw [nd_len]; omega, by rw [nd_len]; omega, by omega, by omega, by omega, by omega, by omega, by omega, ?_⟩
  rw [wrap64 (n := 0 - x.a) (by omega) (by omega), Int.zero_sub]
  by_cases h0 : x.f = 0
  · simp [h0]
  · by_cases h1 : x.f = 1
    · simp [h1]
    · by_cases h2 : y = 1
      · simp [h0, h1, h2]
      · by_cases h3 : y = -1 <;> simp [h0, h1, h2, h3]
theorem impl_powerOf_ok (p : Nat) (hp : p ≤ 8) : Pure Try.prog 163 [.i 60, .i p] (.i (pw p)) := by
  refine fun_impl_powerOf (by simp) ?_
  simp -implicitDefEqProofs only [go_sem, evR, ints, rows, rat, rats, c_impl_powerOf]
  refine SemC.loopR (σ := Nat) (fun i => St.of [(0, .t (.i 60)), (5, .t (.i (pw i))), (6, .t (.i p)), (7, .t (.i i))] []) (fun i => i ≤ p) (fun i => p - i) 0 (Weak.of _ [] [] (by simp) (by simp) ?_ trivial) (by omega) fun i hi R hn hr he => ?_
  · simp -implicitDefEqProofs only [ints, rows, Nat.reduceBEq, wkR, Nat.reduceEqDiff, ↓reduceIte, wrR, show pw 0 = 1 from rfl]
  · rcases Nat.lt_or_ge i p with h9 | h9
    · simp -implicitDefEqProofs only [go_sem, evR, ints, rows, rat, rats, decide_eq_true (show (i : Int) < (p : Int) by omega)]
      have hb := pw_le (show i + 1 ≤ 8 by omega)
      have hb0 := pw_pos (p := i + 1)
      have hb8 : pw 8 = 167961600000000 := by decide
      have e : pw i * 60 = pw (i + 1) := by rw [pw_succ, Int.mul_comm]
      refine hn _ (i + 1) (Weak.of _ [] [] (by simp) (by simp) ?_ trivial) (by omega) (by omega)
      simp -implicitDefEqProofs only [ints, rows, Nat.reduceBEq, wkR, Nat.reduceEqDiff, ↓reduceIte, wrR, next64 h9 (by omega), e, wrap64 (n := pw (i + 1)) (by omega) (by omega)]
    · simp -implicitDefEqProofs only [go_sem, evR, ints, rows, rat, rats, decide_eq_false (show ¬ (i : Int) < (p : Int) by omega)]
      refine he _ _ ?_
      simp -implicitDefEqProofs only [go_sem, evR, ints, rows, rat, rats]
      rw [show i = p by omega]
theorem spec_l23Power_ok (p : Nat) (hp : p ≤ 8) : Pure Try.prog 157 [.i p] (.i (pw p)) := by
  refine fun_spec_l23Power (by simp) ?_
  simp -implicitDefEqProofs only [go_sem, evR, ints, rows, rat, rats, c_spec_l23Power]
  refine SemC.loopR (σ := Nat) (fun i => St.of [(0, .t (.i ((p - i : Nat) : Int))), (3, .t (.i (pw i)))] []) (fun i => i ≤ p) (fun i => p - i) 0 (Weak.of _ [] [] (by simp) (by simp) ?_ trivial) (by omega) fun i hi R hn hr he => ?_
  · simp -implicitDefEqProofs only [ints, rows, Nat.reduceBEq, wkR, Nat.reduceEqDiff, ↓reduceIte, wrR, show pw 0 = 1 from rfl, Nat.sub_zero]
  · rcases Nat.lt_or_ge i p with h9 | h9
    · simp -implicitDefEqProofs only [go_sem, evR, ints, rows, rat, rats, decide_eq_true (show ((p - i : Nat) : Int) > 0 by omega)]
      have hb := pw_le (show i + 1 ≤ 8 by omega)
      have hb0 := pw_pos (p := i + 1)
      have hb8 : pw 8 = 167961600000000 := by decide
      have e : pw i * 60 = pw (i + 1) := by rw [pw_succ, Int.mul_comm]
      refine hn _ (i + 1) (Weak.of _ [] [] (by simp) (by simp) ?_ trivial) (by omega) (by omega)
      simp -implicitDefEqProofs only [ints, rows, Nat.reduceBEq, wkR, Nat.reduceEqDiff, ↓reduceIte, wrR, e, wrap64 (n := pw (i + 1)) (by omega) (by omega), wrap64 (n := ((p - (i + 1) : Nat) : Int)) (by omega) (by omega), show ((p - i : Nat) : Int) - 1 = ((p - (i + 1) : Nat) : Int) by omega]
    · simp -implicitDefEqProofs only [go_sem, evR, ints, rows, rat, rats, decide_eq_false (show ¬ ((p - i : Nat) : Int) > 0 by omega)]
      refine he _ _ ?_
      simp -implicitDefEqProofs only [go_sem, evR, ints, rows, rat, rats]
      rw [show i = p by omega]
theorem dep_t {f : FuncId} {l : List Nd} {i n : Int} (h : Pure Try.prog f [treeT l, .i i] (.i n)) : Pure Try.prog f [.agg [.sh 5 (chunk nodeC l)], .i i] (.i n) := h
theorem game_unit {g : Gm} (hg : isGameB g = true) : smallW g.w ∧ dep g.nd g.nd.length 0 = (dpt g : Nat) ∧ dpt g ≤ 5 ∧ 0 ≤ totW g.w ∧ totW g.w ≤ 324 ∧ 1 ≤ pw (dpt g) ∧ pw (dpt g) ≤ 777600000 := by
  obtain ⟨p1, p2, p3, p4, p5⟩ := isGameB_parts hg
  obtain ⟨t1, t2, t3, t4⟩ := isTreeB_spec p1
  have hs := smallW_of p3 p2.2
  have hd0 := dep_nonneg (l := g.nd) g.nd.length 0
  have hd : dpt g ≤ 5 := by unfold dpt; omega
  have hb := totW_bound hs g.w.length
  rw [List.take_length] at hb
  have h1 := pw_le hd
  have h2 := pw_pos (p := dpt g)
  have h5 : pw 5 = 777600000 := by decide
  exact ⟨hs, by unfold dpt; omega, hd, hb.1, hb.2, by omega, by omega⟩
theorem idxs_before {l : List Nd} {pl : Int} {i n : Nat} (hi : i < n) (hp : (l.getD i nd0).p = pl) {j : Nat} {y : Int} (hj : j ≤ (idxs l pl i).length) (hy : (idxs l pl n)[j]? = some y) : (y = i ↔ j = (idxs l pl i).length) := by
  obtain ⟨rest, e⟩ := idxs_split l pl hp n hi
  rw [e] at hy
  rcases Nat.lt_or_ge j (idxs l pl i).length with h | h
  · rw [List.getElem?_append_left h] at hy
    obtain ⟨k, rfl, hk, _⟩ := idxs_mem (List.mem_of_getElem? hy)
    constructor
    · intro h1; omega
    · intro h1; omega
  · rw [List.getElem?_append_right h, show j - (idxs l pl i).length = 0 by omega] at hy
    have : (i : Int) = y := by simpa using hy
    constructor
    · intro; omega
    · intro; omega
theorem idxs_lt {l : List Nd} {pl : Int} {i n : Nat} (hi : i < n) (hp : (l.getD i nd0).p = pl) : (idxs l pl i).length < (idxs l pl n).length := by
  obtain ⟨rest, e⟩ := idxs_split l pl hp n hi
  rw [e]; simp
set_option maxRecDepth 20000 in
theorem spec_l23Set_ok (g : Gm) (hg : isGameB g = true) (pl : Int) (i c : Nat) (hi : i < g.nd.length) (hp : (g.nd.getD i nd0).p = pl) (hc : c < g.w.length) : Pure Try.prog 221 [gameT g, .i pl, .i i, .i c] (.i (setI g pl i c)) := by
  obtain ⟨p1, p2, p3, p4, p5⟩ := isGameB_parts hg
  obtain ⟨t1, t2, t3, t4⟩ := isTreeB_spec p1
  have hlt := idxs_lt hi hp
  have hbf : ∀ {j : Nat} {y : Int}, j ≤ (idxs g.nd pl i).length → (idxs g.nd pl g.nd.length)[j]? = some y → (y = i ↔ j = (idxs g.nd pl i).length) := fun hj hy => idxs_before hi hp hj hy
  have hlen := idxs_length g.nd pl g.nd.length
  refine fun_spec_l23Set (by simp) ?_
  simp -implicitDefEqProofs only [go_sem, evR, ints, rows, rat, rats, c_spec_l23Set, gameT, nodes]
  refine CallW.res (spec_l20Of_t g.nd pl (by omega)) [] rfl Try.call220 ?_ (.inl rfl) ?_
  · simp -implicitDefEqProofs only [agR, Nat.reduceLeDiff, Nat.reduceSub, vaR, go_sem, ints, rows, rat, rats, ratsO, rtR, intsO, rowsO]
  simp -implicitDefEqProofs only [clR, Nat.reduceLeDiff, go_sem, evR, rat, intsO]
  unfold setI
  generalize idxs g.nd pl g.nd.length = ns at hlt hbf hlen ⊢
  generalize hm : (idxs g.nd pl i).length = m at hlt hbf ⊢
  refine SemC.loopR (σ := Nat) (fun j => St.of [(2, .t (.i i)), (3, .t (.i c)), (4, .own 4), (9, .own 14), (10, .t (.i j))] [(4, .box [nodes g.nd, rows g.w, rows g.v]), (14, intsO ns)]) (fun j => j ≤ m) (fun j => m - j) 0 (Weak.of _ _ [some 4, some 14] (by simp) (by simp) ?_ ?_) (by omega) fun j hj R hn hr he => ?_
  · simp -implicitDefEqProofs only [ints, rows, Nat.reduceBEq, wkR, Nat.reduceEqDiff, ↓reduceIte, wrR, nodes]
  · exact ⟨⟨_, rfl, .refl _⟩, rfl, ⟨_, rfl, .refl _⟩, rfl, trivial⟩
  · obtain ⟨y, hy⟩ : ∃ y, ns[j]? = some y := ⟨_, List.getElem?_eq_getElem (by omega)⟩
    have hiff := hbf hj hy
    have hmul : j * g.w.length ≤ 60 * 6 := Nat.mul_le_mul (by omega) p2.2
    have hcast : (j : Int) * (g.w.length : Int) = ((j * g.w.length : Nat) : Int) := by rw [Int.natCast_mul]
    simp -implicitDefEqProofs only [go_sem, evR, ints, rows, rat, rats, nodes, intsO, hy, decide_eq_true (show (j : Int) < (ns.length : Int) by omega)]
    refine ⟨by omega, by omega, by omega, fun h1 => hr _ ?_, fun h1 => hn _ (j + 1) (Weak.of _ _ [some 4, some 14] (by simp) (by simp) ?_ ?_) ?_ ?_⟩
    · have h1 : j = m := hiff.1 (by simpa using h1)
      simp -implicitDefEqProofs only [go_sem, evR, ints, rows, rat, rats, hcast, wrap64 (n := ((j * g.w.length : Nat) : Int)) (by omega) (by omega), wrap64 (n := ((j * g.w.length : Nat) : Int) + (c : Int)) (by omega) (by omega)]
      rw [h1]; rfl
    · simp -implicitDefEqProofs only [ints, rows, Nat.reduceBEq, wkR, Nat.reduceEqDiff, ↓reduceIte, wrR, nodes, intsO, next64 (show j < ns.length by omega) (by omega)]
    · exact ⟨⟨_, rfl, .refl _⟩, rfl, ⟨_, rfl, .refl _⟩, rfl, trivial⟩
    · have h1 : ¬ j = m := fun h => by have := hiff.2 h; simp at h1; omega
      omega
    · have h1 : ¬ j = m := fun h => by have := hiff.2 h; simp at h1; omega
      omega
end
end Go.Ab

/- Contracts: best responses, the reference's. -/
set_option linter.unusedSimpArgs false
set_option linter.unusedVariables false
namespace Go.Ab
open Go.Proofs

theorem sumI_range_abs {G : Nat → Int} {c : Int} : ∀ {n : Nat}, (∀ k, k < n → -c ≤ G k ∧ G k ≤ c) → -(n * c) ≤ sumI ((List.range n).map G) ∧ sumI ((List.range n).map G) ≤ n * c
  | 0, _ => by simp [sumI]
  | n + 1, h => by
    have ih := sumI_range_abs (n := n) fun k hk => h k (by omega)
    have h1 := h n (by omega)
    rw [List.range_succ, List.map_append, List.map_cons, List.map_nil, sumI_snoc]
    have e : ((n + 1 : Nat) : Int) * c = n * c + c := by rw [Int.natCast_add, Int.add_mul]; simp
    omega
def nilO (r : Nat) (K : A → Prop) : Root → Prop
  | .live (.box _) _ => K (.own r)
  | _ => False
theorem nilCheckW_own {r : Nat} {S : St} {K : A → Prop} : nilCheckW (.own r) S K = nilO r K (S.roots r) := by
  show (match S.roots r with | .live (.box _) _ => K (.own r) | _ => False) = _
  cases S.roots r with
  | live t lk => cases t <;> rfl
  | _ => rfl
theorem nilCheckW_ptr {r off : Nat} {S : St} {K : A → Prop} : nilCheckW (.ptr r off) S K = K (.ptr r off) := rfl
theorem nilCheckW_pin {l : List T} {off : Nat} {S : St} {K : A → Prop} : nilCheckW (.t (.pin l off)) S K = K (.t (.pin l off)) := rfl
attribute [go_sem] nilCheckW_own nilCheckW_ptr nilCheckW_pin nilO
section
attribute [-go_sem] load1C load1V fldC lenC idxC loadNV nilCheckW
theorem l23Set_t {g : Gm} (hg : isGameB g = true) {pl : Int} {i c : Nat} (hi : i < g.nd.length) (hp : (g.nd.getD i nd0).p = pl) (hc : c < g.w.length) : Pure Try.prog 221 [.agg [.sh 5 (chunk nodeC g.nd), .sh 1 (g.w.map ints), .sh 1 (g.v.map ints)], .i pl, .i i, .i c] (.i (setI g pl i c)) := spec_l23Set_ok g hg pl i c hi hp hc
end
end Go.Ab

/- Contracts: best responses, the program's. -/
set_option linter.unusedSimpArgs false
set_option linter.unusedVariables false
namespace Go.Ab
open Go.Proofs

theorem payoffAt_t {g : Gm} (hg : isGameB g = true) (i a b : Nat) (hi : i < g.nd.length) (ha : a < g.w.length) (hb : b < g.w.length) : Pure Try.prog 213 [.agg [.sh 5 (chunk nodeC g.nd), .sh 1 (g.w.map ints), .sh 1 (g.v.map ints)], .i i, .i a, .i b] (.i (pay g i a b)) := impl_payoffAt_ok g hg i a b hi ha hb
section
attribute [-go_sem] load1C load1V fldC lenC idxC loadNV nilCheckW
end
end Go.Ab

/- Contracts: the best number and the first best response, the program's. -/
set_option linter.unusedSimpArgs false
set_option linter.unusedVariables false
namespace Go.Ab
open Go.Proofs

theorem idxs_lt' {l : List Nd} {pl : Int} {j : Nat} {y : Int} (h : (idxs l pl l.length)[j]? = some y) : ∃ i : Nat, y = i ∧ i < l.length := by
  obtain ⟨i, h1, h2, _⟩ := idxs_mem (List.mem_of_getElem? h)
  exact ⟨i, h1, h2⟩
section
attribute [-go_sem] load1C load1V fldC lenC idxC loadNV nilCheckW
end
end Go.Ab

/- Contracts: pairs of strategies; best numbers, bounds, equilibria, exported. -/
set_option linter.unusedSimpArgs false
set_option linter.unusedVariables false
namespace Go.Ab
open Go.Proofs

section
attribute [-go_sem] load1C load1V fldC lenC idxC loadNV nilCheckW
theorem vb_t {f : FuncId} {g : Gm} {s t : Int × List (List Int)} {r : T} (h : Pure Try.prog f [gameT g, stratT s, stratT t] r) : Pure Try.prog f [.agg [.sh 5 (chunk nodeC g.nd), .sh 1 (g.w.map ints), .sh 1 (g.v.map ints)], .agg [.i s.1, .sh 1 (s.2.map ints)], .agg [.i t.1, .sh 1 (t.2.map ints)]] r := h
def tr3 (r : Int × Int × Int) : T := .tup [.i r.1, .i r.2.1, .i r.2.2]
end
end Go.Ab

/- Contracts: the turned matrix. -/
set_option linter.unusedSimpArgs false
set_option linter.unusedVariables false
namespace Go.Ab
open Go.Proofs

def colI (m : List (List Int)) (k i : Nat) : List Int := (m.take i).map fun r => r.getD k 0
def colOf (m : List (List Int)) (k : Nat) : List Int := m.map fun r => r.getD k 0
def tr (m : List (List Int)) (c : Nat) : List (List Int) := (List.range c).map (colOf m)
def rect (m : List (List Int)) (c : Nat) : Prop := ∀ r ∈ m, r.length = c
def tpart (m : List (List Int)) (c k i : Nat) : List (List Int) := (List.range c).map fun j => if j < k then colOf m j else if j = k then colI m j i else []
theorem tpart_length (m : List (List Int)) (c k i : Nat) : (tpart m c k i).length = c := by simp [tpart]
theorem tpart_get {m : List (List Int)} {c k i : Nat} (h : k < c) : (tpart m c k i)[k]? = some (colI m k i) := by simp [tpart, h]
theorem tpart_set {m : List (List Int)} {c k i : Nat} (h : k < c) {r : List Int} (hr : m[i]? = some r) : (tpart m c k i).set k (colI m k i ++ [r.getD k 0]) = tpart m c k (i + 1) := by
  refine List.ext_getElem? fun j => ?_
  rw [List.getElem?_set]
  by_cases hj : k = j
  · subst hj
    rw [if_pos rfl, if_pos (by rw [tpart_length]; exact h), tpart_get h, colI, colI, take_snoc hr]; simp
  · rw [if_neg hj]
    simp only [tpart, List.getElem?_map]
    by_cases hjc : j < c
    · rw [List.getElem?_range hjc]; simp only [Option.map_some, if_neg (Ne.symm hj)]
    · rw [List.getElem?_eq_none (by simpa using hjc)]; rfl
theorem tpart_zero (m : List (List Int)) (c : Nat) : tpart m c 0 0 = List.replicate c [] := by
  refine List.ext_getElem? fun j => ?_
  simp only [tpart, List.getElem?_map, List.getElem?_replicate]
  by_cases hjc : j < c
  · rw [List.getElem?_range hjc, if_pos hjc]; simp [colI]
  · rw [List.getElem?_eq_none (by simpa using hjc), if_neg hjc]; rfl
theorem tpart_next {m : List (List Int)} {c k : Nat} : tpart m c k m.length = tpart m c (k + 1) 0 := by
  refine List.map_congr_left fun j _ => ?_
  by_cases h1 : j < k
  · rw [if_pos h1, if_pos (by omega)]
  · by_cases h2 : j = k
    · rw [if_neg h1, if_pos h2, if_pos (by omega), colI, List.take_length]; rfl
    · rw [if_neg h1, if_neg h2, if_neg (by omega)]
      split
      · simp [colI]
      · rfl
theorem tpart_all (m : List (List Int)) (c : Nat) : tpart m c c 0 = tr m c := by
  refine List.map_congr_left fun j hj => ?_
  rw [if_pos (by simpa using hj)]

theorem le_nils (n : Nat) : Le (.arr 1 (List.replicate n (.v (.slice none 0 0)))) (.arr 1 ((List.replicate n ([] : List Int)).map intsO)) :=
  .arr 1 (by simp) fun i h h' => by simp [intsO]; exact .nilArr 1

theorem impl_turned_ok (m : List (List Int)) (c : Nat) (hm : m ≠ []) (hr : rect m c) (hml : m.length ≤ 1000000) (hcl : c ≤ 1000000) : Fun Try.prog 104 [] [.t (rows m)] fun o r => o = [] ∧ r = rowsO (tr m c) := by
  have hpos : 0 < m.length := List.length_pos_iff.2 hm
  refine fun_impl_turned (by simp) ?_
  simp -implicitDefEqProofs only [go_sem, evR, ints, rows, rat, rats, c_impl_turned]
  refine ⟨by omega, by omega, fun r0 h0 => ?_⟩
  have hc0 : r0.length = c := hr r0 (List.mem_of_getElem? h0)
  rw [hc0]
  refine ⟨by omega, by omega, ?_⟩
  refine SemC.loopR (σ := Nat) (fun k => St.of [(0, .t (rows m)), (3, .own 11), (13, .t (.i c)), (14, .t (.i k))] [(11, .arr 1 ((tpart m c k 0).map intsO))]) (fun k => k ≤ c) (fun k => c - k) 0 (Weak.of _ _ [some 11] (by simp) (by simp) ?_ ?_) (by simp) fun k hk R hn hr' he => ?_
  · simp -implicitDefEqProofs only [ints, rows, Nat.reduceBEq, wkR, Nat.reduceEqDiff, ↓reduceIte, wrR, made_one, List.length_replicate]
  · exact ⟨⟨_, rfl, by rw [made_one, tpart_zero]; exact le_nils _⟩, rfl, trivial⟩
  · simp -implicitDefEqProofs only [go_sem, evR, ints, rows, rat, rats]
    refine ⟨fun h => ?_, fun h => he _ _ ?_⟩
    · refine SemC.loopR (σ := Nat) (fun i => St.of [(0, .t (rows m)), (3, .own 11), (4, .t (.i k)), (13, .t (.i c)), (14, .t (.i k)), (17, .t (rows m)), (18, .t (.i m.length)), (19, .t (.i i))] [(11, .arr 1 ((tpart m c k i).map intsO))]) (fun i => i ≤ m.length) (fun i => m.length - i) 0 (Weak.of _ _ [some 11] (by simp) (by simp) ?_ ?_) (by simp) fun i hi R2 hn2 hr2 he2 => ?_
      · simp -implicitDefEqProofs only [ints, rows, Nat.reduceBEq, wkR, Nat.reduceEqDiff, ↓reduceIte, wrR]
      · exact ⟨⟨_, rfl, .refl _⟩, rfl, trivial⟩
      · have hlen := tpart_length m c k i
        simp -implicitDefEqProofs only [go_sem, evR, ints, rows, rat, rats, hlen, intsO]
        refine ⟨fun h1 => ⟨by omega, by omega, by omega, fun r hrow => ⟨by omega, by omega, by omega, fun q hq => ?_⟩⟩, fun h1 => he2 _ _ ?_⟩
        · have hkc : k < c := by omega
          rw [tpart_get hkc] at hq; cases hq
          have hrl := hr r (List.mem_of_getElem? hrow)
          refine ⟨by omega, by omega, by omega, fun x hx => ⟨?_, by omega, by omega, by omega, hn2 _ (i + 1) (Weak.of _ _ [some 11] (by simp) (by simp) ?_ ?_) (by omega) (by omega)⟩⟩
          · simp [colI]; omega
          · simp -implicitDefEqProofs only [ints, rows, Nat.reduceBEq, wkR, Nat.reduceEqDiff, ↓reduceIte, wrR, next64 (by omega : i < m.length) (by omega)]
          · refine ⟨⟨_, rfl, ?_⟩, rfl, trivial⟩
            have e := tpart_set hkc hrow
            have hxk : r.getD k 0 = x := by rw [List.getD_eq_getElem?_getD, hx]; rfl
            rw [hxk] at e
            rw [← e, List.map_set]
            simp only [intsO, List.map_append, List.map_cons, List.map_nil]
            exact .refl _
        · simp -implicitDefEqProofs only [go_sem, evR, ints, rows, rat, rats]
          have : i = m.length := by omega
          subst this
          refine hn _ (k + 1) (Weak.of _ _ [some 11] (by simp) (by simp) ?_ ?_) (by omega) (by omega)
          · simp -implicitDefEqProofs only [ints, rows, Nat.reduceBEq, wkR, Nat.reduceEqDiff, ↓reduceIte, wrR, next64 (by omega : k < c) (by omega)]
          · exact ⟨⟨_, rfl, by rw [tpart_next]; exact .refl _⟩, rfl, trivial⟩
    · simp -implicitDefEqProofs only [go_sem, evR, ints, rows, rat, rats]
      have : k = c := by omega
      subst this
      rw [tpart_all]; rfl
end Go.Ab

/- Contracts: saddle points. -/
set_option linter.unusedSimpArgs false
set_option linter.unusedVariables false
namespace Go.Ab
open Go.Proofs

def ent (m : List (List Int)) (i k : Nat) : Int := (m.getD i []).getD k 0
def sad (m : List (List Int)) (c i k : Nat) : Bool := ((List.range c).all fun j => decide (ent m i k ≤ ent m i j)) && ((List.range m.length).all fun j => decide (ent m j k ≤ ent m i k))
def saddle (m : List (List Int)) (c : Nat) : Int × Int × Int :=
  match ((List.range m.length).flatMap fun i => (List.range c).map fun k => (i, k)).find? fun p => sad m c p.1 p.2 with
  | some p => (p.1, p.2, 0)
  | none => (0, 0, 4)
def noSad (m : List (List Int)) (c i k : Nat) : Prop := (∀ i' k', i' < i → k' < c → sad m c i' k' = false) ∧ ∀ k', k' < k → sad m c i k' = false

theorem noSad_next {m : List (List Int)} {c i k : Nat} (h : noSad m c i k) (hs : sad m c i k = false) : noSad m c i (k + 1) :=
  ⟨h.1, fun k' hk' => by
    rcases Nat.lt_or_ge k' k with h' | h'
    · exact h.2 k' h'
    · rw [show k' = k by omega]; exact hs⟩
theorem noSad_row {m : List (List Int)} {c i : Nat} (h : noSad m c i c) : noSad m c (i + 1) 0 :=
  ⟨fun i' k' hi' hk' => by
    rcases Nat.lt_or_ge i' i with h' | h'
    · exact h.1 i' k' h' hk'
    · rw [show i' = i by omega]; exact h.2 k' hk', fun _ h' => by omega⟩

theorem range_split {n i : Nat} (h : i < n) : ∃ rest, List.range n = List.range i ++ i :: rest := by
  refine ⟨((List.range (n - i - 1)).map Nat.succ).map (i + ·), ?_⟩
  have h1 : List.range (i + (n - i)) = List.range i ++ (List.range (n - i)).map (i + ·) := List.range_add
  rw [show i + (n - i) = n by omega] at h1
  have h2 : List.range (n - i) = 0 :: (List.range (n - i - 1)).map Nat.succ := by rw [← List.range_succ_eq_map]; congr 1; omega
  rw [h1, h2]; rfl
theorem saddle_some {m : List (List Int)} {c i k : Nat} (hi : i < m.length) (hk : k < c) (h : noSad m c i k) (hs : sad m c i k = true) : saddle m c = ((i : Int), (k : Int), 0) := by
  have : ((List.range m.length).flatMap fun i => (List.range c).map fun k => (i, k)).find? (fun p => sad m c p.1 p.2) = some (i, k) := by
    rw [List.find?_eq_some_iff_append]
    obtain ⟨r1, h1⟩ := range_split hi
    obtain ⟨r2, h2⟩ := range_split hk
    refine ⟨hs, ((List.range i).flatMap fun i => (List.range c).map fun k => (i, k)) ++ (List.range k).map fun k => (i, k), r2.map (fun k => (i, k)) ++ r1.flatMap fun i => (List.range c).map fun k => (i, k), ?_, fun p hp => ?_⟩
    · rw [h1, List.flatMap_append, List.flatMap_cons]
      conv => lhs; rw [show (List.range c).map (fun k => (i, k)) = (List.range k).map (fun k => (i, k)) ++ (i, k) :: r2.map (fun k => (i, k)) by rw [h2]; simp]
      simp
    · rcases List.mem_append.1 hp with hp | hp
      · obtain ⟨i', hi', hp⟩ := List.mem_flatMap.1 hp
        obtain ⟨k', hk', rfl⟩ := List.mem_map.1 hp
        rw [h.1 i' k' (by simpa using hi') (by simpa using hk')]; rfl
      · obtain ⟨k', hk', rfl⟩ := List.mem_map.1 hp
        rw [h.2 k' (by simpa using hk')]; rfl
  rw [saddle, this]
theorem saddle_none {m : List (List Int)} {c : Nat} (h : ∀ i k, i < m.length → k < c → sad m c i k = false) : saddle m c = (0, 0, 4) := by
  have : ((List.range m.length).flatMap fun i => (List.range c).map fun k => (i, k)).find? (fun p => sad m c p.1 p.2) = none := by
    rw [List.find?_eq_none]
    intro p hp
    obtain ⟨i', hi', hp⟩ := List.mem_flatMap.1 hp
    obtain ⟨k', hk', rfl⟩ := List.mem_map.1 hp
    rw [h i' k' (by simpa using hi') (by simpa using hk')]; simp
  rw [saddle, this]
theorem ent_get {m : List (List Int)} {i k : Nat} {r : List Int} {x : Int} (h : m[i]? = some r) (h' : r[k]? = some x) : ent m i k = x := by
  simp only [ent, List.getD_eq_getElem?_getD, h, h', Option.getD_some]

end Go.Ab

/- Contracts: saddle points by lowest and highest numbers. -/
set_option linter.unusedSimpArgs false
set_option linter.unusedVariables false
namespace Go.Ab
open Go.Proofs

theorem foldl_min_spec : ∀ (l : List Int) (a : Int), (∀ y ∈ a :: l, l.foldl min a ≤ y) ∧ l.foldl min a ∈ a :: l
  | [], a => by simp
  | b :: l, a => by
    obtain ⟨h1, h2⟩ := foldl_min_spec l (min a b)
    refine ⟨fun y hy => ?_, ?_⟩
    · have h0 := h1 (min a b) (by simp)
      rcases List.mem_cons.1 hy with rfl | hy
      · simp only [List.foldl_cons]; omega
      · rcases List.mem_cons.1 hy with rfl | hy
        · simp only [List.foldl_cons]; omega
        · exact h1 y (List.mem_cons_of_mem _ hy)
    · simp only [List.foldl_cons]
      rcases List.mem_cons.1 h2 with h | h
      · rw [h]
        rcases Int.le_total a b with h' | h'
        · rw [Int.min_eq_left h']; simp
        · rw [Int.min_eq_right h']; simp
      · simp [h]
theorem foldl_max_spec : ∀ (l : List Int) (a : Int), (∀ y ∈ a :: l, y ≤ l.foldl max a) ∧ l.foldl max a ∈ a :: l
  | [], a => by simp
  | b :: l, a => by
    obtain ⟨h1, h2⟩ := foldl_max_spec l (max a b)
    refine ⟨fun y hy => ?_, ?_⟩
    · have h0 := h1 (max a b) (by simp)
      rcases List.mem_cons.1 hy with rfl | hy
      · simp only [List.foldl_cons]; omega
      · rcases List.mem_cons.1 hy with rfl | hy
        · simp only [List.foldl_cons]; omega
        · exact h1 y (List.mem_cons_of_mem _ hy)
    · simp only [List.foldl_cons]
      rcases List.mem_cons.1 h2 with h | h
      · rw [h]
        rcases Int.le_total a b with h' | h'
        · rw [Int.max_eq_right h']; simp
        · rw [Int.max_eq_left h']; simp
      · simp [h]
theorem minL_spec {l : List Int} (h : l ≠ []) : (∀ y ∈ l, minL l ≤ y) ∧ minL l ∈ l := by
  cases l with
  | nil => simp at h
  | cons a l => exact foldl_min_spec l a
theorem maxL_spec {l : List Int} (h : l ≠ []) : (∀ y ∈ l, y ≤ maxL l) ∧ maxL l ∈ l := by
  cases l with
  | nil => simp at h
  | cons a l => exact foldl_max_spec l a
theorem minL_iff {l : List Int} {x : Int} (hx : x ∈ l) : x = minL l ↔ ∀ y ∈ l, x ≤ y := by
  obtain ⟨h1, h2⟩ := minL_spec (List.ne_nil_of_mem hx)
  exact ⟨fun h y hy => h ▸ h1 y hy, fun h => Int.le_antisymm (h _ h2) (h1 _ hx)⟩
theorem maxL_iff {l : List Int} {x : Int} (hx : x ∈ l) : x = maxL l ↔ ∀ y ∈ l, y ≤ x := by
  obtain ⟨h1, h2⟩ := maxL_spec (List.ne_nil_of_mem hx)
  exact ⟨fun h y hy => h ▸ h1 y hy, fun h => Int.le_antisymm (h1 _ hx) (h _ h2)⟩
theorem sad_eq {m : List (List Int)} {c i k : Nat} {row : List Int} {x : Int} (hr : m[i]? = some row) (hl : row.length = c) (hx : row[k]? = some x) :
    sad m c i k = (decide (x = minL row) && decide (x = maxL (colOf m k))) := by
  have hxc : x ∈ colOf m k := List.mem_map.2 ⟨row, List.mem_of_getElem? hr, by rw [List.getD_eq_getElem?_getD, hx]; rfl⟩
  have hxe : ent m i k = x := ent_get hr hx
  rw [sad, hxe]
  congr 1
  · rw [Bool.eq_iff_iff, decide_eq_true_eq, minL_iff (List.mem_of_getElem? hx), List.all_eq_true]
    refine ⟨fun h y hy => ?_, fun h j hj => ?_⟩
    · obtain ⟨j, hj⟩ := List.mem_iff_getElem?.1 hy
      have := h j (by rw [List.mem_range, ← hl]; exact (List.getElem?_eq_some_iff.1 hj).1)
      rw [ent_get hr hj] at this; simpa using this
    · rw [List.mem_range, ← hl] at hj
      rw [ent_get hr (List.getElem?_eq_getElem hj)]
      simpa using h _ (List.getElem_mem hj)
  · rw [Bool.eq_iff_iff, decide_eq_true_eq, maxL_iff hxc, List.all_eq_true]
    refine ⟨fun h y hy => ?_, fun h j hj => ?_⟩
    · obtain ⟨r, hr', rfl⟩ := List.mem_map.1 hy
      obtain ⟨j, hj⟩ := List.mem_iff_getElem?.1 hr'
      have := h j (by rw [List.mem_range]; exact (List.getElem?_eq_some_iff.1 hj).1)
      simp only [ent, List.getD_eq_getElem?_getD, hj, Option.getD_some] at this
      simpa [List.getD_eq_getElem?_getD] using this
    · rw [List.mem_range] at hj
      have := h (m[j].getD k 0) (List.mem_map.2 ⟨m[j], List.getElem_mem hj, rfl⟩)
      simp only [ent, List.getD_eq_getElem?_getD, List.getElem?_eq_getElem hj, Option.getD_some]
      simpa [List.getD_eq_getElem?_getD] using this

end Go.Ab

/- The law FnExactSaddlePoint, as a contract. -/
set_option linter.unusedSimpArgs false
set_option linter.unusedVariables false
namespace Go.Ab
open Go.Proofs

end Go.Ab

/- Contracts: marks of lists of rows. -/
set_option linter.unusedSimpArgs false
set_option linter.unusedVariables false
namespace Go.Ab
open Go.Proofs

def tot : List (List Int) → Nat
  | [] => 0
  | r :: m => r.length + tot m
theorem tot_mem : ∀ {m : List (List Int)} {r : List Int}, r ∈ m → r.length ≤ tot m
  | r' :: m, r, h => by
    rcases List.mem_cons.1 h with rfl | h
    · simp [tot]
    · have := tot_mem h; simp only [tot]; omega

end Go.Ab

/- Contracts: games, strategies and claims as the laws copy, measure and compare them. -/
set_option linter.unusedSimpArgs false
set_option linter.unusedVariables false
namespace Go.Ab
open Go.Proofs

def gameO (g : Gm) : T := .agg [nodesO g.nd, rowsO g.w, rowsO g.v]
theorem nodesO_toSh (l : List Nd) : (nodesO l).toSh = nodes l := by
  show T.sh 5 (T.toShL (chunk nodeCO l)) = T.sh 5 (chunk nodeC l)
  congr 1
  induction l with
  | nil => rfl
  | cons x l ih =>
    rw [chunk_cons, chunk_cons, T.toShL_eq_map, List.map_append, ← T.toShL_eq_map (chunk nodeCO l), ih]
    congr 1
    show [T.i x.p, .i x.a, .i x.b, .i x.f, (intsO x.ch).toSh] = _
    rw [intsO_toSh]; rfl
theorem toShL_nodes (l : List Nd) : T.toShL (chunk nodeCO l) = chunk nodeC l := by
  have := nodesO_toSh l
  simpa [nodesO, nodes, T.toSh] using this
attribute [go_sem] toShL_nodes
section
attribute [-go_sem] load1C load1V fldC lenC idxC loadNV
end
end Go.Ab

/- Contracts: copies of games, strategies and claims, and when they are equal. -/
set_option linter.unusedSimpArgs false
set_option linter.unusedVariables false
namespace Go.Ab
open Go.Proofs

section
attribute [-go_sem] load1C load1V fldC lenC idxC loadNV
def rows12 (m : List (List Int)) : Prop := m.length ≤ 1000000000000 ∧ ∀ r ∈ m, r.length ≤ 1000000000000
end
end Go.Ab

/- Sizes of games, strategies and claims behind the laws' budgets. -/
set_option linter.unusedSimpArgs false
set_option linter.unusedVariables false
namespace Go.Ab
open Go.Proofs

def rowsS (m : List (List Int)) : Prop := m.length ≤ 1048576 ∧ tot m ≤ 1048576
theorem rowsS_12 {m : List (List Int)} (h : rowsS m) : rows12 m := ⟨by have := h.1; omega, fun r hr => by have := tot_mem hr; have := h.2; omega⟩
end Go.Ab

/- Functions in compact form, with hints. -/
set_option linter.unusedVariables false
namespace Go.Ab
open Go.Proofs

def c_impl_newEvaluator_h : CC :=
 (.seq (.reg [.o (.box 3 (sl 0)),
 .o (.box 4 (sl 1)),
 .o (.box 5 (sl 2)),
 .o (.move 6 (cv (.pointer none)))])
 ((.seq (.draw [25] [(kR, .o (.loadN 15 3 (sl 3))),
 (kR, .o (.fld 16 1 (sl 4))),
 (kR, .o (.load1 17 (sl 16))),
 (kR, .o (.fld 18 1 (sl 5))),
 (kR, .o (.load1 19 (sl 18))),
 (kR, .o (.build 20 [.v (.slice none 0 0), .v (.slice none 0 0)] [(0, 1), (1, 1)] [(0, (sl 17)), (1, (sl 19))])),
 (kR, .o (.fld 21 0 (sl 3))),
 (kR, .o (.fld 22 0 (sl 21))),
 (kR, .o (.load1 23 (sl 22))),
 (kR, .o (.lenS 24 (sl 23))),
 (kN, .o (.make 25 [.v (.int .i64 0)] 8 (sl 24) (sl 24))),
 (kR, .o (.build 26 [.v (.slice none 0 0), .v (.slice none 0 0), .v (.slice none 0 0), .v (.slice none 0 0), .v (.slice none 0 0), .v (.slice none 0 0), .v (.slice none 0 0), .v (.slice none 0 0)] [(0, 3), (3, 2), (5, 2), (7, 1)] [(0, (sl 15)), (2, (sl 20)), (3, (sl 25))])),
 (kH, .o (.box 27 (sl 26))),
 (kR, .o (.move 7 (sl 27)))])
 ((.seq (.seq (.reg [.o (.move 28 (ci 0))])
 ((.block 0 (.loop (.seq (.reg [.o (.bin 29 .lss (sl 28) (ci 2))])
 ((.seq (.cond (sl 29) .skip
 (.exit 0))
 ((.seq (.block 1 (.seq (.reg [.o (.move 30 (sl 28)),
 .o (.move 8 (sl 30))])
 ((.seq (.draw [37] [(kR, .o (.move 31 (sl 7))),
 (kR, .o (.move 32 (sl 8))),
 (kR, .o (.fld 33 0 (sl 3))),
 (kR, .o (.fld 34 0 (sl 33))),
 (kR, .o (.load1 35 (sl 34))),
 (kR, .o (.lenS 36 (sl 35))),
 (kN, .o (.make 37 [.v (.int .i64 0)] 8 (sl 36) (sl 36))),
 (.r false [37], .o (.nilc 38 (sl 31))),
 (.r false [37], .o (.fld 39 3 (sl 38))),
 (kR, .o (.idxA 40 2 1 (sl 39) (sl 32))),
 (kH, .o (.store 1 (sl 40) (sl 37)))])
 ((.seq (.reg [.o (.fld 41 0 (sl 3)),
 .o (.loadN 42 1 (sl 41)),
 .o (.move 43 (sl 8)),
 .o (.call (some 44) (cf 181) [(sl 42), (sl 43)]),
 .o (.lenS 45 (sl 44)),
 .o (.move 46 (ci 0))])
 ((.block 2 (.loop (.seq (.reg [.o (.bin 47 .lss (sl 46) (sl 45))])
 ((.seq (.cond (sl 47) .skip
 (.exit 2))
 ((.seq (.block 3 (.seq (.reg [.o (.move 48 (sl 46)),
 .o (.idx 49 1 (sl 44) (sl 46)),
 .o (.load1 50 (sl 49)),
 .o (.move 9 (sl 48)),
 .o (.move 10 (sl 50))])
 ((.weak (.draw [] [(kR, .o (.move 51 (sl 7))),
 (kR, .o (.move 52 (sl 8))),
 (kR, .o (.nilc 53 (sl 51))),
 (kR, .o (.fld 54 3 (sl 53))),
 (kR, .o (.idxA 55 2 1 (sl 54) (sl 52))),
 (kR, .o (.load1 56 (sl 55))),
 (kR, .o (.move 57 (sl 10))),
 (kR, .o (.move 58 (sl 9))),
 (kR, .o (.fld 59 1 (sl 3))),
 (kR, .o (.load1 60 (sl 59))),
 (kR, .o (.lenS 61 (sl 60))),
 (kR, .o (.bin 62 .mul (sl 58) (sl 61))),
 (kR, .o (.idx 63 1 (sl 56) (sl 57))),
 (kH, .o (.store 1 (sl 63) (sl 62)))])))))
 ((.reg [.o (.bin 64 .add (sl 46) (ci 1)),
 .o (.move 46 (sl 64))]))))))))))))))))
 ((.reg [.o (.bin 65 .add (sl 28) (ci 1)),
 .o (.move 28 (sl 65))])))))))))))
 ((.seq (.seq (.reg [.o (.fld 66 0 (sl 3)),
 .o (.fld 67 0 (sl 66)),
 .o (.load1 68 (sl 67)),
 .o (.lenS 69 (sl 68)),
 .o (.move 70 (ci 0))])
 ((.block 4 (.loop (.seq (.reg [.o (.bin 71 .lss (sl 70) (sl 69))])
 ((.seq (.cond (sl 71) .skip
 (.exit 4))
 ((.seq (.block 5 (.seq (.reg [.o (.move 72 (sl 70)),
 .o (.idx 73 5 (sl 68) (sl 70)),
 .o (.loadN 74 5 (sl 73)),
 .o (.alloc 12 [.v (.int .i64 0), .v (.int .i64 0), .v (.int .i64 0), .v (.int .i64 0), .v (.slice none 0 0)]),
 .o (.move 11 (sl 72)),
 .o (.store 5 (sl 12) (sl 74))])
 ((.seq (.reg [.o (.fld 75 4 (sl 12)),
 .o (.load1 76 (sl 75)),
 .o (.lenS 77 (sl 76)),
 .o (.move 78 (ci 0))])
 ((.block 6 (.loop (.seq (.reg [.o (.bin 79 .lss (sl 78) (sl 77))])
 ((.seq (.cond (sl 79) .skip
 (.exit 6))
 ((.seq (.block 7 (.seq (.reg [.o (.idx 80 1 (sl 76) (sl 78)),
 .o (.load1 81 (sl 80)),
 .o (.move 14 (sl 81))])
 ((.reg [.o (.move 82 (sl 7)),
 .o (.nilc 83 (sl 82)),
 .o (.fld 84 7 (sl 83)),
 .o (.load1 85 (sl 84)),
 .o (.move 86 (sl 14)),
 .o (.move 87 (sl 11)),
 .o (.idx 88 1 (sl 85) (sl 86)),
 .o (.store 1 (sl 88) (sl 87))]))))
 ((.reg [.o (.bin 89 .add (sl 78) (ci 1)),
 .o (.move 78 (sl 89))]))))))))))))))
 ((.reg [.o (.bin 90 .add (sl 70) (ci 1)),
 .o (.move 70 (sl 90))])))))))))))
 ((.seq (.reg [.o (.move 91 (sl 7)),
 .o (.move 6 (sl 91))])
 (.ret))))))))))
theorem fun_impl_newEvaluator_h {rin : List T} {args : List A} {Q : List T → T → Prop} (ha : args.length ≤ 92) (h : cW Try.prog 92 c_impl_newEvaluator_h (retP Try.prog [.tmp 6] rin.length Q) (St.of (enum 0 args) (enum 1000000000 rin))) :
    Fun Try.prog 179 rin args Q :=
  Fun.of (H := ⟨[], [9]⟩) Try.func179 rfl rfl rfl (by kernel_rfl) ha (by decide) h

end Go.Ab

/- Contracts: numbers of games. -/
set_option linter.unusedSimpArgs false
set_option linter.unusedVariables false
namespace Go.Ab
open Go.Proofs

def evO (g : Gm) (s t : List (List Int)) : T := .box [nodes g.nd, rows g.w, rows g.v, intsO (ownL g 0), intsO (ownL g 1), rows s, rows t, intsO (parN g.nd g.nd.length)]
def evL (g : Gm) (s t : List (List Int)) : List T := [nodes g.nd, rows g.w, rows g.v, ints (ownL g 0), ints (ownL g 1), rows s, rows t, ints (parN g.nd g.nd.length)]
def evB (g : Gm) (s t : List (List Int)) (c3 c4 : T) (par : List Int) : T := .box [nodes g.nd, rows g.w, rows g.v, c3, c4, rows s, rows t, intsO par]
def evC (g : Gm) (q : Int) (b : Bool) : T := if b = true then intsO (ownL g q) else .v (.slice none 0 0)
theorem parN_step {l : List Nd} {i : Nat} {x : Nd} (hx : l[i]? = some x) : parN l (i + 1) = x.ch.foldl (fun P (c : Int) => P.set c.toNat (i : Int)) (parN l i) := by
  rw [parN, List.getD_eq_getElem?_getD, hx]; rfl
def parK (P ch : List Int) (i k : Nat) : List Int := (ch.take k).foldl (fun P (c : Int) => P.set c.toNat (i : Int)) P
theorem parK_succ {P ch : List Int} {i k m : Nat} (h : ch[k]? = some (m : Int)) : parK P ch i (k + 1) = (parK P ch i k).set m (i : Int) := by
  simp only [parK, take_snoc h, List.foldl_append, List.foldl_cons, List.foldl_nil, Int.toNat_natCast]
theorem parK_length (P ch : List Int) (i k : Nat) : (parK P ch i k).length = P.length := by rw [parK, foldl_set_length]
section
attribute [-go_sem] load1C load1V fldC lenC idxC loadNV nilCheckW
set_option maxRecDepth 20000 in
theorem impl_newEvaluator_ok (g : Gm) (s t : Int × List (List Int)) (hg : isGameB g = true) : Fun Try.prog 179 [] [.t (gameT g), .t (stratT s), .t (stratT t)] fun o r => o = [] ∧ r = evO g s.2 t.2 := by
  obtain ⟨p1, p2, p3, p4, p5⟩ := isGameB_parts hg
  obtain ⟨t1, t2, t3, t4⟩ := isTreeB_spec p1
  have hfl : ∀ q j, (fillN (idxs g.nd q g.nd.length) g.w.length g.nd.length j).length = g.nd.length := fun q j => fillN_length _ _ _ _
  have hfs : ∀ q j (n : Nat), (idxs g.nd q g.nd.length)[j]? = some (n : Int) → fillN (idxs g.nd q g.nd.length) g.w.length g.nd.length (j + 1) = (fillN (idxs g.nd q g.nd.length) g.w.length g.nd.length j).set n ((j * g.w.length : Nat) : Int) := fun q j n h => by
    rw [fillN, List.getD_eq_getElem?_getD, h]; rfl
  have hmul : ∀ n : Nat, n ≤ g.nd.length → n * g.w.length ≤ 60 * 6 := fun n hn => Nat.mul_le_mul (by omega) p2.2
  have hoL : ∀ q, ownL g q = fillN (idxs g.nd q g.nd.length) g.w.length g.nd.length (idxs g.nd q g.nd.length).length := fun q => rfl
  have w1 : IntKind.i64.wrap 1 = 1 := rfl
  have w2' : IntKind.i64.wrap (1 + 1) = 2 := rfl
  refine fun_impl_newEvaluator_h (by simp) ?_
  simp -implicitDefEqProofs only [go_sem, evR, ints, rows, rat, rats, c_impl_newEvaluator_h, gameT, stratT, nodes, made_one]
  refine ⟨by omega, by omega, ?_⟩
  refine SemC.loopR (σ := Nat) (fun q => St.of [(3, .own 3), (7, .own 27), (28, .t (.i q))] [(3, .box [nodes g.nd, rows g.w, rows g.v]), (27, evB g s.2 t.2 (evC g 0 (decide (0 < q))) (evC g 1 (decide (1 < q))) (List.replicate g.nd.length 0))]) (fun q => q ≤ 2) (fun q => 2 - q) 0 (Weak.of _ _ [some 3, some 27] (by simp) (by simp) ?_ ?_) (by omega) fun q hq R hn hr he => ?_
  · simp -implicitDefEqProofs only [ints, rows, Nat.reduceBEq, wkR, Nat.reduceEqDiff, ↓reduceIte, wrR, nodes]
  · refine ⟨⟨_, rfl, .refl _⟩, rfl, ⟨_, rfl, ?_⟩, rfl, trivial⟩
    rw [evB, intsO, List.map_replicate]; exact .refl _
  · match q, hq with
    | 0, _ =>
      simp -implicitDefEqProofs only [go_sem, evR, ints, rows, rat, rats, evB, evC, nodes, intsO, decide_eq_true (show (0 : Int) < 2 by omega), Nat.lt_irrefl, decide_false, Bool.false_eq_true, Int.natCast_zero, Int.cast_ofNat_Int, opR, Nat.reduceBEq]
      refine ⟨by omega, by omega, ?_⟩
      refine CallW.res (impl_nodesOf_t g.nd 0 (by omega)) [] rfl Try.call181 ?_ (.inl rfl) ?_
      · simp -implicitDefEqProofs only [agR, Nat.reduceLeDiff, Nat.reduceSub, vaR, go_sem, ints, rows, rat, rats, ratsO, rtR, intsO, rowsO]
      simp -implicitDefEqProofs only [clR, Nat.reduceLeDiff, go_sem, evR, rat, intsO]
      have hil := idxs_length g.nd 0 g.nd.length
      refine SemC.loopR (σ := Nat) (fun j => St.of [(3, .own 3), (7, .own 27), (8, .t (.i 0)), (28, .t (.i 0)), (44, .own 44), (45, .t (.i (idxs g.nd 0 g.nd.length).length)), (46, .t (.i j))] [(3, .box [nodes g.nd, rows g.w, rows g.v]), (27, evB g s.2 t.2 (intsO (fillN (idxs g.nd 0 g.nd.length) g.w.length g.nd.length j)) (.v (.slice none 0 0)) (List.replicate g.nd.length 0)), (44, intsO (idxs g.nd 0 g.nd.length))]) (fun j => j ≤ (idxs g.nd 0 g.nd.length).length) (fun j => (idxs g.nd 0 g.nd.length).length - j) 0 (Weak.of _ _ [some 3, some 27, some 44] (by simp) (by simp) ?_ ?_) (by omega) fun j hj R2 hn2 hr2 he2 => ?_
      · simp -implicitDefEqProofs only [ints, rows, Nat.reduceBEq, wkR, Nat.reduceEqDiff, ↓reduceIte, wrR, nodes]
      · refine ⟨⟨_, rfl, .refl _⟩, rfl, ⟨_, rfl, ?_⟩, rfl, ⟨_, rfl, .refl _⟩, rfl, trivial⟩
        simp only [evB, fillN, made_one, intsO, List.map_replicate]; exact .refl _
      · rcases Nat.lt_or_ge j (idxs g.nd 0 g.nd.length).length with h9 | h9
        · obtain ⟨y, hy⟩ : ∃ y, (idxs g.nd 0 g.nd.length)[j]? = some y := ⟨_, List.getElem?_eq_getElem h9⟩
          obtain ⟨n, rfl, hn1⟩ := idxs_lt' hy
          have hjm := hmul j (by omega)
          simp -implicitDefEqProofs only [go_sem, evR, ints, rows, rat, rats, evB, nodes, hy, intsO, decide_eq_true (show (j : Int) < ((idxs g.nd 0 g.nd.length).length : Int) by omega), hfl]
          refine ⟨by omega, by omega, by omega, ?_⟩
          refine ⟨_, Weak.open 27 3 500 rfl rfl rfl (by decide) rfl, ?_⟩
          simp -implicitDefEqProofs only [go_sem, evR, ints, rows, rat, rats, opR, Nat.reduceBEq, hfl]
          refine ⟨by omega, by omega, by omega, by omega, hn2 _ (j + 1) (Weak.trans (Weak.close1 27 3 500 rfl rfl (by decide) rfl) (Weak.of _ _ [some 3, some 27, some 44] (by simp) (by simp) ?_ ?_)) (by omega) (by omega)⟩
          · simp -implicitDefEqProofs only [ints, rows, Nat.reduceBEq, wkR, Nat.reduceEqDiff, ↓reduceIte, wrR, nodes, next64 h9 (by omega)]
          · refine ⟨⟨_, rfl, .refl _⟩, rfl, ⟨_, rfl, ?_⟩, rfl, ⟨_, rfl, .refl _⟩, rfl, trivial⟩
            rw [hfs _ _ _ hy]; simp only [evB, intsO, List.map_set]; rw [wrap64 (n := (j : Int) * (g.w.length : Int)) (by omega) (by omega), ← Int.natCast_mul]; exact .refl _
        · have hjl : j = (idxs g.nd 0 g.nd.length).length := by omega
          subst hjl
          simp -implicitDefEqProofs only [go_sem, evR, ints, rows, rat, rats, evB, nodes, intsO, decide_eq_false (show ¬ ((idxs g.nd 0 g.nd.length).length : Int) < ((idxs g.nd 0 g.nd.length).length : Int) by omega)]
          refine he2 _ _ ?_
          simp -implicitDefEqProofs only [go_sem, evR, ints, rows, rat, rats]
          rw [← hoL]
          refine hn _ 1 (Weak.of _ _ [some 3, some 27] (by simp) (by simp) ?_ ?_) (by omega) (by omega)
          · simp -implicitDefEqProofs only [ints, rows, Nat.reduceBEq, wkR, Nat.reduceEqDiff, ↓reduceIte, wrR, nodes, Int.zero_add, w1]
          · exact ⟨⟨_, rfl, .refl _⟩, rfl, ⟨_, rfl, .refl _⟩, rfl, trivial⟩
    | 1, _ =>
      simp -implicitDefEqProofs only [go_sem, evR, ints, rows, rat, rats, evB, evC, nodes, intsO, decide_eq_true (show (1 : Int) < 2 by omega), Nat.lt_irrefl, Nat.zero_lt_one, decide_true, decide_false, Bool.false_eq_true, Int.natCast_zero, Int.cast_ofNat_Int, opR, Nat.reduceBEq]
      refine ⟨by omega, by omega, ?_⟩
      refine CallW.res (impl_nodesOf_t g.nd 1 (by omega)) [] rfl Try.call181 ?_ (.inl rfl) ?_
      · simp -implicitDefEqProofs only [agR, Nat.reduceLeDiff, Nat.reduceSub, vaR, go_sem, ints, rows, rat, rats, ratsO, rtR, intsO, rowsO]
      simp -implicitDefEqProofs only [clR, Nat.reduceLeDiff, go_sem, evR, rat, intsO]
      have hil := idxs_length g.nd 1 g.nd.length
      refine SemC.loopR (σ := Nat) (fun j => St.of [(3, .own 3), (7, .own 27), (8, .t (.i 1)), (28, .t (.i 1)), (44, .own 44), (45, .t (.i (idxs g.nd 1 g.nd.length).length)), (46, .t (.i j))] [(3, .box [nodes g.nd, rows g.w, rows g.v]), (27, evB g s.2 t.2 (intsO (ownL g 0)) (intsO (fillN (idxs g.nd 1 g.nd.length) g.w.length g.nd.length j)) (List.replicate g.nd.length 0)), (44, intsO (idxs g.nd 1 g.nd.length))]) (fun j => j ≤ (idxs g.nd 1 g.nd.length).length) (fun j => (idxs g.nd 1 g.nd.length).length - j) 0 (Weak.of _ _ [some 3, some 27, some 44] (by simp) (by simp) ?_ ?_) (by omega) fun j hj R2 hn2 hr2 he2 => ?_
      · simp -implicitDefEqProofs only [ints, rows, Nat.reduceBEq, wkR, Nat.reduceEqDiff, ↓reduceIte, wrR, nodes]
      · refine ⟨⟨_, rfl, .refl _⟩, rfl, ⟨_, rfl, ?_⟩, rfl, ⟨_, rfl, .refl _⟩, rfl, trivial⟩
        simp only [evB, fillN, made_one, intsO, List.map_replicate]; exact .refl _
      · rcases Nat.lt_or_ge j (idxs g.nd 1 g.nd.length).length with h9 | h9
        · obtain ⟨y, hy⟩ : ∃ y, (idxs g.nd 1 g.nd.length)[j]? = some y := ⟨_, List.getElem?_eq_getElem h9⟩
          obtain ⟨n, rfl, hn1⟩ := idxs_lt' hy
          have hjm := hmul j (by omega)
          simp -implicitDefEqProofs only [go_sem, evR, ints, rows, rat, rats, evB, nodes, hy, intsO, decide_eq_true (show (j : Int) < ((idxs g.nd 1 g.nd.length).length : Int) by omega), hfl]
          refine ⟨by omega, by omega, by omega, ?_⟩
          refine ⟨_, Weak.open 27 4 500 rfl rfl rfl (by decide) rfl, ?_⟩
          simp -implicitDefEqProofs only [go_sem, evR, ints, rows, rat, rats, opR, Nat.reduceBEq, hfl]
          refine ⟨by omega, by omega, by omega, by omega, hn2 _ (j + 1) (Weak.trans (Weak.close1 27 4 500 rfl rfl (by decide) rfl) (Weak.of _ _ [some 3, some 27, some 44] (by simp) (by simp) ?_ ?_)) (by omega) (by omega)⟩
          · simp -implicitDefEqProofs only [ints, rows, Nat.reduceBEq, wkR, Nat.reduceEqDiff, ↓reduceIte, wrR, nodes, next64 h9 (by omega)]
          · refine ⟨⟨_, rfl, .refl _⟩, rfl, ⟨_, rfl, ?_⟩, rfl, ⟨_, rfl, .refl _⟩, rfl, trivial⟩
            rw [hfs _ _ _ hy]; simp only [evB, intsO, List.map_set]; rw [wrap64 (n := (j : Int) * (g.w.length : Int)) (by omega) (by omega), ← Int.natCast_mul]; exact .refl _
        · have hjl : j = (idxs g.nd 1 g.nd.length).length := by omega
          subst hjl
          simp -implicitDefEqProofs only [go_sem, evR, ints, rows, rat, rats, evB, nodes, intsO, decide_eq_false (show ¬ ((idxs g.nd 1 g.nd.length).length : Int) < ((idxs g.nd 1 g.nd.length).length : Int) by omega)]
          refine he2 _ _ ?_
          simp -implicitDefEqProofs only [go_sem, evR, ints, rows, rat, rats]
          rw [← hoL]
          refine hn _ 2 (Weak.of _ _ [some 3, some 27] (by simp) (by simp) ?_ ?_) (by omega) (by omega)
          · simp -implicitDefEqProofs only [ints, rows, Nat.reduceBEq, wkR, Nat.reduceEqDiff, ↓reduceIte, wrR, nodes, w2']
          · exact ⟨⟨_, rfl, .refl _⟩, rfl, ⟨_, rfl, .refl _⟩, rfl, trivial⟩
    | 2, _ =>
      simp -implicitDefEqProofs only [go_sem, evR, ints, rows, rat, rats, evB, evC, nodes, intsO, decide_eq_false (show ¬ (2 : Int) < 2 by omega), Nat.lt_irrefl, decide_false, Bool.false_eq_true, Int.natCast_zero, Int.cast_ofNat_Int]
      refine he _ _ ?_
      simp -implicitDefEqProofs only [go_sem, evR, ints, rows, rat, rats]
      refine SemC.loopR (σ := Nat) (fun i => St.of [(7, .own 27), (68, .t (nodes g.nd)), (69, .t (.i g.nd.length)), (70, .t (.i i))] [(27, evB g s.2 t.2 (intsO (ownL g 0)) (intsO (ownL g 1)) (parN g.nd i))]) (fun i => i ≤ g.nd.length) (fun i => g.nd.length - i) 0 (Weak.of _ _ [some 27] (by simp) (by simp) ?_ ?_) (by omega) fun i hi R3 hn3 hr3 he3 => ?_
      · simp -implicitDefEqProofs only [ints, rows, Nat.reduceBEq, wkR, Nat.reduceEqDiff, ↓reduceIte, wrR, nodes, nd_len]
      · exact ⟨⟨_, rfl, .refl _⟩, rfl, trivial⟩
      · rcases Nat.lt_or_ge i g.nd.length with h9 | h9
        · obtain ⟨x, hx⟩ : ∃ x, g.nd[i]? = some x := ⟨_, List.getElem?_eq_getElem h9⟩
          have hch := ndOK_child (t2 i _ hx)
          obtain ⟨_, _, _, _, _, hch4⟩ := ndOK_fields (t2 i _ hx)
          simp -implicitDefEqProofs only [go_sem, evR, ints, rows, rat, rats, nodes, nd_at hx, decide_eq_true (show (i : Int) < (g.nd.length : Int) by omega), opR, Nat.reduceBEq]
          refine ⟨by omega, by rw [nd_len]; omega, by rw [nd_len]; omega, ?_⟩
          refine SemC.loopR (σ := Nat) (fun k => St.of [(7, .own 27), (11, .t (.i i)), (68, .t (nodes g.nd)), (69, .t (.i g.nd.length)), (70, .t (.i i)), (76, .t (ints x.ch)), (77, .t (.i x.ch.length)), (78, .t (.i k))] [(27, evB g s.2 t.2 (intsO (ownL g 0)) (intsO (ownL g 1)) (parK (parN g.nd i) x.ch i k))]) (fun k => k ≤ x.ch.length) (fun k => x.ch.length - k) 0 (Weak.of _ _ [some 27] (by simp) (by simp) ?_ ?_) (by omega) fun k hk R4 hn4 hr4 he4 => ?_
          · simp -implicitDefEqProofs only [ints, rows, Nat.reduceBEq, wkR, Nat.reduceEqDiff, ↓reduceIte, wrR, nodes]
          · exact ⟨⟨_, rfl, .refl _⟩, rfl, trivial⟩
          · rcases Nat.lt_or_ge k x.ch.length with h10 | h10
            · obtain ⟨c, hc⟩ : ∃ c, x.ch[k]? = some c := ⟨_, List.getElem?_eq_getElem h10⟩
              have hcb := hch c (List.mem_of_getElem? hc)
              obtain ⟨m, rfl⟩ : ∃ m : Nat, c = m := ⟨c.toNat, by omega⟩
              have hpl : (parK (parN g.nd i) x.ch i k).length = g.nd.length := by rw [parK_length, parN_length]
              simp -implicitDefEqProofs only [go_sem, evR, ints, rows, rat, rats, evB, nodes, intsO, hc, decide_eq_true (show (k : Int) < (x.ch.length : Int) by omega), hpl, opR, Nat.reduceBEq]
              refine ⟨by omega, by omega, by omega, by omega, by omega, by omega, hn4 _ (k + 1) (Weak.trans (Weak.close1 27 7 85 rfl rfl (by decide) rfl) (Weak.of _ _ [some 27] (by simp) (by simp) ?_ ?_)) (by omega) (by omega)⟩
              · simp -implicitDefEqProofs only [ints, rows, Nat.reduceBEq, wkR, Nat.reduceEqDiff, ↓reduceIte, wrR, nodes, next64 h10 (show x.ch.length ≤ 1000000000000 by omega)]
              · refine ⟨⟨_, rfl, ?_⟩, rfl, trivial⟩
                rw [parK_succ hc]; simp only [evB, intsO, List.map_set]; exact .refl _
            · simp -implicitDefEqProofs only [go_sem, evR, ints, rows, rat, rats, evB, nodes, intsO, decide_eq_false (show ¬ (k : Int) < (x.ch.length : Int) by omega)]
              refine he4 _ _ ?_
              simp -implicitDefEqProofs only [go_sem, evR, ints, rows, rat, rats]
              refine hn3 _ (i + 1) (Weak.of _ _ [some 27] (by simp) (by simp) ?_ ?_) (by omega) (by omega)
              · simp -implicitDefEqProofs only [ints, rows, Nat.reduceBEq, wkR, Nat.reduceEqDiff, ↓reduceIte, wrR, nodes, next64 h9 (by omega)]
              · refine ⟨⟨_, rfl, ?_⟩, rfl, trivial⟩
                rw [parN_step hx, show k = x.ch.length by omega, parK, List.take_of_length_le (Nat.le_refl _)]; exact .refl _
        · simp -implicitDefEqProofs only [go_sem, evR, ints, rows, rat, rats, nodes, decide_eq_false (show ¬ (i : Int) < (g.nd.length : Int) by omega)]
          refine he3 _ _ ?_
          simp -implicitDefEqProofs only [go_sem, evR, ints, rows, rat, rats, evB]
          rw [show i = g.nd.length by omega]; rfl
end
end Go.Ab

/- Contracts: values of nodes and numbers of games. -/
set_option linter.unusedSimpArgs false
set_option linter.unusedVariables false
namespace Go.Ab
open Go.Proofs

def chP (g : Gm) (s t : List (List Int)) (i a b : Nat) : List Int := if (g.nd.getD i nd0).p = 0 then partsOf g s 0 i a else partsOf g t 1 i b
theorem partsOK_row {g : Gm} {pt : List (List Int)} {pl : Int} (hnd : ndsOK g.nd) (hpl : pl ≠ 2) (h : partsOK g pt pl) {i c : Nat} (hi : i < g.nd.length) (hc : c < g.w.length) (hp : (g.nd.getD i nd0).p = pl) : pt[setI g pl i c]? = some (partsOf g pt pl i c) := by
  obtain ⟨m1, m2, m3⟩ := h i c hi hc hp
  unfold partsOf at m3 ⊢
  rw [List.getD_eq_getElem?_getD] at m3 ⊢
  cases hx : pt[setI g pl i c]? with
  | some x => rfl
  | none => rw [hx] at m3; simp [sumI] at m3
theorem chP_spec {g : Gm} {s t : List (List Int)} (hnd : ndsOK g.nd) (hs : partsOK g s 0) (ht : partsOK g t 1) {i a b : Nat} (hi : i < g.nd.length) (ha : a < g.w.length) (hb : b < g.w.length) (h2 : (g.nd.getD i nd0).p ≠ 2) :
    (chP g s t i a b).length = (g.nd.getD i nd0).ch.length ∧ (∀ x ∈ chP g s t i a b, 0 ≤ x ∧ x ≤ 60) ∧ sumI (chP g s t i a b) = 60 := by
  have hx : g.nd[i]? = some (g.nd.getD i nd0) := by rw [List.getD_eq_getElem?_getD, List.getElem?_eq_getElem hi]; rfl
  obtain ⟨⟨r1, r2⟩, _⟩ := ndOK_fields (hnd i _ hx)
  unfold chP
  by_cases h0 : (g.nd.getD i nd0).p = 0
  · rw [if_pos h0]; exact hs i a hi ha h0
  · rw [if_neg h0]; exact ht i b hi hb (by omega)
theorem valK_all {g : Gm} {s t : List (List Int)} {f i a b p : Nat} (h2 : (g.nd.getD i nd0).p ≠ 2) {n : Nat} (hn : (g.nd.getD i nd0).ch.length ≤ n) : valK g s t f a b (p - 1) (chP g s t i a b) (g.nd.getD i nd0).ch n = val g s t (f + 1) i a b p := by
  rw [val]
  (try simp only [])
  rw [if_neg h2, valK, chP, List.take_of_length_le]
  rw [List.length_zipWith]; omega
theorem valK_abs {g : Gm} {s t : List (List Int)} (hnd : ndsOK g.nd) (hs : partsOK g s 0) (ht : partsOK g t 1) {a b : Nat} (ha : a < g.w.length) (hb : b < g.w.length) {f p : Nat} {q ch : List Int} (hq : ∀ x ∈ q, 0 ≤ x ∧ x ≤ 60) (hc : ∀ c ∈ ch, 0 ≤ c ∧ c.toNat < g.nd.length ∧ dep g.nd f c.toNat ≤ p) : ∀ k, k ≤ q.length → k ≤ ch.length → -(k * (6000 * pw p)) ≤ valK g s t f a b p q ch k ∧ valK g s t f a b p q ch k ≤ k * (6000 * pw p)
  | 0, _, _ => by simp [valK, sumI]
  | k + 1, h, h' => by
    have ih := valK_abs hnd hs ht ha hb hq hc k (by omega) (by omega)
    have hx := List.getElem?_eq_getElem (show k < q.length by omega)
    have hy := List.getElem?_eq_getElem (show k < ch.length by omega)
    rw [valK_succ hx hy]
    have h1 := hq _ (List.getElem_mem (show k < q.length by omega))
    have h2 := hc _ (List.getElem_mem (show k < ch.length by omega))
    have h3 := val_abs hnd hs ht ha hb f _ p h2.2.1 h2.2.2
    obtain ⟨m1, m2⟩ := mul_abs h1.1 h3.1 h3.2
    have hp := pw_pos p
    have m3 : 100 * pw p * q[k] ≤ 100 * pw p * 60 := Int.mul_le_mul_of_nonneg_left h1.2 (by omega)
    have e : ((k + 1 : Nat) : Int) * (6000 * pw p) = (k : Int) * (6000 * pw p) + 6000 * pw p := by rw [Int.natCast_succ, Int.add_mul, Int.one_mul]
    rw [e]
    generalize (k : Int) * (6000 * pw p) = Z at ih ⊢
    generalize q[k] * val g s t f (ch[k]).toNat a b p = Y at m1 m2 ⊢
    generalize 100 * pw p * q[k] = U at m1 m2 m3
    omega
theorem pw_le5 {p : Nat} (h : p ≤ 5) : 1 ≤ pw p ∧ pw p ≤ 777600000 := by
  have : p = 0 ∨ p = 1 ∨ p = 2 ∨ p = 3 ∨ p = 4 ∨ p = 5 := by omega
  rcases this with rfl | rfl | rfl | rfl | rfl | rfl <;> decide

def gF (g : Gm) (s t : List (List Int)) (a b : Nat) : Int := (g.w.getD a []).getD b 0 * val g s t g.nd.length 0 a b (dpt g)
theorem gnum_eq (g : Gm) (s t : List (List Int)) : gnum g s t = sumI ((List.range g.w.length).map fun a => sumI ((List.range g.w.length).map (gF g s t a))) := rfl
theorem gF_abs {g : Gm} {s t : List (List Int)} (hg : isGameB g = true) (hs : partsOK g s 0) (ht : partsOK g t 1) {a b : Nat} (ha : a < g.w.length) (hb : b < g.w.length) : -700000000000 ≤ gF g s t a b ∧ gF g s t a b ≤ 700000000000 := by
  obtain ⟨p1, p2, p3, p4, p5⟩ := isGameB_parts hg
  obtain ⟨t1, t2, t3, t4⟩ := isTreeB_spec p1
  obtain ⟨u1, u2, u3, u4, u5, u6, u7⟩ := game_unit hg
  obtain ⟨r, y, h1, h2, h3, h4⟩ := game_w hg ha hb
  have hv := val_abs t2 hs ht ha hb g.nd.length 0 (dpt g) (by omega) (by omega)
  unfold gF
  rw [show (g.w.getD a []).getD b 0 = y by simp only [List.getD_eq_getElem?_getD, h1, Option.getD_some, h2]]
  obtain ⟨m1, m2⟩ := mul_abs h3 hv.1 hv.2
  have m3 : 100 * pw (dpt g) * y ≤ 77760000000 * 9 := Int.mul_le_mul (by omega) h4 h3 (by decide)
  omega
theorem sumI_rsucc (F : Nat → Int) (n : Nat) : sumI ((List.range (n + 1)).map F) = sumI ((List.range n).map F) + F n := by
  rw [List.range_succ, List.map_append, List.map_cons, List.map_nil, sumI_snoc]
theorem gR_abs {g : Gm} {s t : List (List Int)} (hg : isGameB g = true) (hs : partsOK g s 0) (ht : partsOK g t 1) {a : Nat} (ha : a < g.w.length) {n : Nat} (hn : n ≤ g.w.length) : -(n * 700000000000) ≤ sumI ((List.range n).map (gF g s t a)) ∧ sumI ((List.range n).map (gF g s t a)) ≤ n * 700000000000 :=
  sumI_range_abs fun b hb => gF_abs hg hs ht ha (by omega)
theorem gS_abs {g : Gm} {s t : List (List Int)} (hg : isGameB g = true) (hs : partsOK g s 0) (ht : partsOK g t 1) {n : Nat} (hn : n ≤ g.w.length) : -(n * 4200000000000) ≤ sumI ((List.range n).map fun a => sumI ((List.range g.w.length).map (gF g s t a))) ∧ sumI ((List.range n).map fun a => sumI ((List.range g.w.length).map (gF g s t a))) ≤ n * 4200000000000 := by
  obtain ⟨p1, p2, p3, p4, p5⟩ := isGameB_parts hg
  refine sumI_range_abs fun a ha => ?_
  have h := gR_abs hg hs ht (a := a) (by omega) (Nat.le_refl g.w.length)
  omega
theorem gnum_abs {g : Gm} {s t : List (List Int)} (hg : isGameB g = true) (hs : partsOK g s 0) (ht : partsOK g t 1) : -25200000000000 ≤ gnum g s t ∧ gnum g s t ≤ 25200000000000 := by
  obtain ⟨p1, p2, p3, p4, p5⟩ := isGameB_parts hg
  have h := gS_abs hg hs ht (Nat.le_refl g.w.length)
  rw [gnum_eq]
  omega
section
attribute [-go_sem] load1C load1V fldC lenC idxC loadNV nilCheckW
set_option maxRecDepth 20000 in
theorem impl_partsAt_ok {g : Gm} {s t : List (List Int)} (hg : isGameB g = true) (hs : partsOK g s 0) (ht : partsOK g t 1) {i a b : Nat} (hi : i < g.nd.length) (ha : a < g.w.length) (hb : b < g.w.length) (h2 : (g.nd.getD i nd0).p ≠ 2) :
    Pure Try.prog 214 [.pin (evL g s t) 0, .i i, .i a, .i b] (ints (chP g s t i a b)) := by
  obtain ⟨p1, p2, p3, p4, p5⟩ := isGameB_parts hg
  obtain ⟨t1, t2, t3, t4⟩ := isTreeB_spec p1
  obtain ⟨x, hx⟩ : ∃ x, g.nd[i]? = some x := ⟨_, List.getElem?_eq_getElem hi⟩
  have hxd : g.nd.getD i nd0 = x := by rw [List.getD_eq_getElem?_getD, hx]; rfl
  obtain ⟨⟨r1, r2⟩, _⟩ := ndOK_fields (t2 _ _ hx)
  rw [hxd] at h2
  refine fun___impl_evaluator__partsAt (by simp) ?_
  have hcase : x.p = 0 ∨ x.p = 1 := by omega
  rcases hcase with h0 | h0
  · have hpd : (g.nd.getD i nd0).p = 0 := by rw [hxd]; exact h0
    have hrow := partsOK_row t2 (by decide) hs hi ha hpd
    have hoi := ownL_get hi hpd
    have hol := ownL_length g 0
    have hrl := (List.getElem?_eq_some_iff.1 hrow).1
    have hset : setI g 0 i a = (idxs g.nd 0 i).length * g.w.length + a := rfl
    have hil := idxs_length g.nd 0 i
    have hm : (idxs g.nd 0 i).length * g.w.length ≤ 60 * 6 := Nat.mul_le_mul (by omega) p2.2
    rw [chP, if_pos hpd]
    simp -implicitDefEqProofs only [go_sem, evR, ints, rows, rat, rats, c___impl_evaluator__partsAt, evL, nodes, nd_get0 hx, h0, hoi, hrow, hol, show ((0 : Int) == 1) = false from rfl, show ((1 : Int) == 1) = true from rfl, show IntKind.i64.wrap ((((idxs g.nd 0 i).length * g.w.length : Nat) : Int) + (a : Int)) = ((setI g 0 i a : Nat) : Int) by rw [wrap64 (by omega) (by omega)]; omega]
    rw [nd_len]; omega
  · have hpd : (g.nd.getD i nd0).p = 1 := by rw [hxd]; exact h0
    have hrow := partsOK_row t2 (by decide) ht hi hb hpd
    have hoi := ownL_get hi hpd
    have hol := ownL_length g 1
    have hrl := (List.getElem?_eq_some_iff.1 hrow).1
    have hset : setI g 1 i b = (idxs g.nd 1 i).length * g.w.length + b := rfl
    have hil := idxs_length g.nd 1 i
    have hm : (idxs g.nd 1 i).length * g.w.length ≤ 60 * 6 := Nat.mul_le_mul (by omega) p2.2
    rw [chP, if_neg (by omega)]
    simp -implicitDefEqProofs only [go_sem, evR, ints, rows, rat, rats, c___impl_evaluator__partsAt, evL, nodes, nd_get0 hx, h0, hoi, hrow, hol, show ((0 : Int) == 1) = false from rfl, show ((1 : Int) == 1) = true from rfl, show IntKind.i64.wrap ((((idxs g.nd 1 i).length * g.w.length : Nat) : Int) + (b : Int)) = ((setI g 1 i b : Nat) : Int) by rw [wrap64 (by omega) (by omega)]; omega]
    rw [nd_len]; omega
theorem partsAt_t {g : Gm} {s t : List (List Int)} (hg : isGameB g = true) (hs : partsOK g s 0) (ht : partsOK g t 1) {i a b : Nat} (hi : i < g.nd.length) (ha : a < g.w.length) (hb : b < g.w.length) (h2 : (g.nd.getD i nd0).p ≠ 2) :
    Pure Try.prog 214 [.pin [.sh 5 (chunk nodeC g.nd), .sh 1 (g.w.map ints), .sh 1 (g.v.map ints), .sh 1 ((ownL g 0).map T.i), .sh 1 ((ownL g 1).map T.i), .sh 1 (s.map ints), .sh 1 (t.map ints), .sh 1 ((parN g.nd g.nd.length).map T.i)] 0, .i i, .i a, .i b] (ints (chP g s t i a b)) := impl_partsAt_ok hg hs ht hi ha hb h2
theorem value_t {g : Gm} {s t : List (List Int)} {i a b p : Int} {r : Int} (h : Pure Try.prog 180 [.pin (evL g s t) 0, .i i, .i a, .i b, .i p] (.i r)) :
    Pure Try.prog 180 [.pin [.sh 5 (chunk nodeC g.nd), .sh 1 (g.w.map ints), .sh 1 (g.v.map ints), .sh 1 ((ownL g 0).map T.i), .sh 1 ((ownL g 1).map T.i), .sh 1 (s.map ints), .sh 1 (t.map ints), .sh 1 ((parN g.nd g.nd.length).map T.i)] 0, .i i, .i a, .i b, .i p] (.i r) := h
set_option maxRecDepth 20000 in
theorem impl_value_ok {g : Gm} {s t : List (List Int)} (hg : isGameB g = true) (hs : partsOK g s 0) (ht : partsOK g t 1) {a b : Nat} (ha : a < g.w.length) (hb : b < g.w.length) : ∀ (f i p : Nat), g.nd.length ≤ i + f → i < g.nd.length → dep g.nd f i ≤ p → p ≤ 5 →
    Pure Try.prog 180 [.pin (evL g s t) 0, .i i, .i a, .i b, .i p] (.i (val g s t f i a b p)) := by
  obtain ⟨p1, p2, p3, p4, p5⟩ := isGameB_parts hg
  obtain ⟨t1, t2, t3, t4⟩ := isTreeB_spec p1
  have hpay := payOK_of t2
  intro f
  induction f with
  | zero => intro i p h1 h2; omega
  | succ f ih =>
    intro i p hf hi hdp hp5
    obtain ⟨x, hx⟩ : ∃ x, g.nd[i]? = some x := ⟨_, List.getElem?_eq_getElem hi⟩
    have hxd : g.nd.getD i nd0 = x := by rw [List.getD_eq_getElem?_getD, hx]; rfl
    have hxl := (ndOK_fields (t2 _ _ hx)).2.2.2.2.2
    have hpw := pw_le5 hp5
    have hV2 : x.p = 2 → val g s t (f + 1) i a b p = pay g i a b * pw p := fun h => by rw [val]; (try simp only []); rw [if_pos (by rw [hxd]; exact h)]
    have hV1 : x.p ≠ 2 → ∀ n, x.ch.length ≤ n → valK g s t f a b (p - 1) (chP g s t i a b) x.ch n = val g s t (f + 1) i a b p := fun h n hn => by
      have := valK_all (g := g) (s := s) (t := t) (f := f) (i := i) (a := a) (b := b) (p := p) (n := n) (by rw [hxd]; exact h) (by rw [hxd]; exact hn)
      rw [hxd] at this; exact this
    generalize val g s t (f + 1) i a b p = V' at hV2 hV1 ⊢
    refine fun___impl_evaluator__value (by simp) ?_
    simp -implicitDefEqProofs only [go_sem, evR, ints, rows, rat, rats, c___impl_evaluator__value, evL, nodes, nd_at hx]
    refine ⟨by omega, by rw [nd_len]; omega, by rw [nd_len]; omega, ?_⟩
    refine ⟨fun h2 => ?_, fun h2 => ?_⟩
    · have h2 : x.p = 2 := by simpa using h2
      rw [hV2 h2]
      refine CallW.pure (payoffAt_t hg i a b hi ha hb) [] rfl Try.call213 ?_ (by first | trivial | simp [T.noSh, T.noShL, rat]) rfl ?_
      · simp -implicitDefEqProofs only [agR, Nat.reduceLeDiff, Nat.reduceSub, vaR, go_sem, ints, rows, rat, rats, ratsO, rtR, intsO, rowsO]
      simp -implicitDefEqProofs only [go_sem, evR, ints, rows, rat, rats]
      refine CallW.pure (impl_powerOf_ok p (by omega)) [] rfl Try.call163 ?_ (by first | trivial | simp [T.noSh, T.noShL, rat]) rfl ?_
      · simp -implicitDefEqProofs only [agR, Nat.reduceLeDiff, Nat.reduceSub, vaR, go_sem, ints, rows, rat, rats, ratsO, rtR, intsO, rowsO]
      simp -implicitDefEqProofs only [go_sem, evR, ints, rows, rat, rats]
      have q1 := hpay i a b
      have m1 := Int.mul_le_mul_of_nonneg_right q1.2 (show 0 ≤ pw p by omega)
      have m2 := Int.mul_le_mul_of_nonneg_right q1.1 (show 0 ≤ pw p by omega)
      rw [wrap64 (n := pay g i a b * pw p) (by omega) (by omega)]
    · have h2 : x.p ≠ 2 := by simpa using h2
      have hp2 : (g.nd.getD i nd0).p ≠ 2 := by rw [hxd]; exact h2
      obtain ⟨d1, d2⟩ := dep_child (f := f) hp2
      rw [hxd] at d2
      have hch := ndOK_child (t2 _ _ hx)
      obtain ⟨c1, c2, c3⟩ := chP_spec t2 hs ht hi ha hb hp2
      rw [hxd] at c1
      obtain ⟨p', rfl⟩ : ∃ p', p = p' + 1 := ⟨p - 1, by omega⟩
      have hpw' := pw_le5 (show p' ≤ 5 by omega)
      have hcond : ∀ c ∈ x.ch, 0 ≤ c ∧ c.toNat < g.nd.length ∧ dep g.nd f c.toNat ≤ p' := fun c hc => by
        have h1 := hch c hc
        have h3 := d2 c hc
        omega
      refine CallW.res (partsAt_t hg hs ht hi ha hb hp2) [] rfl Try.call214 ?_ (.inl rfl) ?_
      · simp -implicitDefEqProofs only [agR, Nat.reduceLeDiff, Nat.reduceSub, vaR, go_sem, ints, rows, rat, rats, ratsO, rtR, intsO, rowsO]
      simp -implicitDefEqProofs only [clR, Nat.reduceLeDiff, go_sem, evR, rat, ints]
      rw [Nat.add_sub_cancel] at hV1
      generalize chP g s t i a b = q at hV1 c1 c2 c3 ⊢
      have hKA := valK_abs t2 hs ht ha hb (f := f) c2 hcond
      refine SemC.loopR (σ := Nat) (fun k => St.of [(0, .t (.pin (evL g s t) 0)), (1, .t (.i i)), (2, .t (.i a)), (3, .t (.i b)), (4, .t (.i (p' + 1 : Nat))), (11, .own 11), (12, .t (.i (valK g s t f a b p' q x.ch k))), (42, .t (ints q)), (43, .t (.i q.length)), (44, .t (.i k))] [(11, .box [.i x.p, .i x.a, .i x.b, .i x.f, ints x.ch])]) (fun k => k ≤ q.length) (fun k => q.length - k) 0 (Weak.of _ _ [some 11] (by simp) (by simp) ?_ ?_) (by omega) fun k hk R hn hr he => ?_
      · simp -implicitDefEqProofs only [ints, rows, Nat.reduceBEq, wkR, Nat.reduceEqDiff, ↓reduceIte, wrR, evL, nodes, show valK g s t f a b p' q x.ch 0 = 0 from rfl]
      · exact ⟨⟨_, rfl, .refl _⟩, rfl, trivial⟩
      · rcases Nat.lt_or_ge k q.length with h9 | h9
        · obtain ⟨y, hy⟩ : ∃ y, q[k]? = some y := ⟨_, List.getElem?_eq_getElem h9⟩
          obtain ⟨c, hc⟩ : ∃ c, x.ch[k]? = some c := ⟨_, List.getElem?_eq_getElem (by omega)⟩
          have hyb := c2 y (List.mem_of_getElem? hy)
          have hcb := hcond c (List.mem_of_getElem? hc)
          have hcb1 := hch c (List.mem_of_getElem? hc)
          have hsu := valK_succ (g := g) (s := s) (t := t) (f := f) (a := a) (b := b) (p := p') hy hc
          have k1 := hKA k (by omega) (by omega)
          have k2 := hKA (k + 1) (by omega) (by omega)
          have k3 : (k : Int) * (6000 * pw p') ≤ 4 * 4665600000000 := Int.mul_le_mul (by omega) (by omega) (by omega) (by decide)
          have k4 : ((k + 1 : Nat) : Int) * (6000 * pw p') ≤ 4 * 4665600000000 := Int.mul_le_mul (by omega) (by omega) (by omega) (by decide)
          simp -implicitDefEqProofs only [go_sem, evR, ints, rows, rat, rats, evL, nodes, hy, hc, decide_eq_true (show (k : Int) < (q.length : Int) by omega), wrap64 (n := (p' : Int)) (by omega) (by omega), show ((p' + 1 : Nat) : Int) - 1 = (p' : Int) by omega]
          refine ⟨by omega, by omega, by omega, fun h5 => ⟨by omega, by omega, by omega, ?_⟩, fun h5 => ?_⟩
          · have hcall := value_t (ih c.toNat p' (by omega) hcb.2.1 hcb.2.2 (by omega))
            rw [show ((c.toNat : Nat) : Int) = c by omega] at hcall
            have hva := val_abs t2 hs ht ha hb f c.toNat p' hcb.2.1 hcb.2.2
            obtain ⟨m1, m2⟩ := mul_abs hyb.1 hva.1 hva.2
            have m3 : 100 * pw p' * y ≤ 77760000000 * 60 := Int.mul_le_mul (by omega) hyb.2 hyb.1 (by decide)
            refine CallW.pure hcall [] rfl Try.call180 ?_ (by first | trivial | simp [T.noSh, T.noShL, rat]) rfl ?_
            · simp -implicitDefEqProofs only [agR, Nat.reduceLeDiff, Nat.reduceSub, vaR, go_sem, ints, rows, rat, rats, ratsO, rtR, intsO, rowsO]
            simp -implicitDefEqProofs only [go_sem, evR, ints, rows, rat, rats]
            refine hn _ (k + 1) (Weak.of _ _ [some 11] (by simp) (by simp) ?_ ?_) (by omega) (by omega)
            · simp -implicitDefEqProofs only [ints, rows, Nat.reduceBEq, wkR, Nat.reduceEqDiff, ↓reduceIte, wrR, evL, nodes, next64 h9 (by omega), wrap64 (n := y * val g s t f c.toNat a b p') (by omega) (by omega), ← hsu, wrap64 (n := valK g s t f a b p' q x.ch (k + 1)) (by omega) (by omega)]
            · exact ⟨⟨_, rfl, .refl _⟩, rfl, trivial⟩
          · have hy0 : y = 0 := by have : ¬ y > 0 := by simpa using h5
                                   omega
            rw [hy0, Int.zero_mul, Int.add_zero] at hsu
            refine hn _ (k + 1) (Weak.of _ _ [some 11] (by simp) (by simp) ?_ ?_) (by omega) (by omega)
            · simp -implicitDefEqProofs only [ints, rows, Nat.reduceBEq, wkR, Nat.reduceEqDiff, ↓reduceIte, wrR, evL, nodes, next64 h9 (by omega), hsu]
            · exact ⟨⟨_, rfl, .refl _⟩, rfl, trivial⟩
        · simp -implicitDefEqProofs only [go_sem, evR, ints, rows, rat, rats, evL, nodes, decide_eq_false (show ¬ (k : Int) < (q.length : Int) by omega)]
          refine he _ _ ?_
          simp -implicitDefEqProofs only [go_sem, evR, ints, rows, rat, rats]
          rw [hV1 h2 k (by omega)]

theorem newEv_t (g : Gm) (s t : Int × List (List Int)) (hg : isGameB g = true) : Fun Try.prog 179 [] [.t (.agg [.sh 5 (chunk nodeC g.nd), .sh 1 (g.w.map ints), .sh 1 (g.v.map ints)]), .t (.agg [.i s.1, .sh 1 (s.2.map ints)]), .t (.agg [.i t.1, .sh 1 (t.2.map ints)])] fun o r => o = [] ∧ r = evO g s.2 t.2 := impl_newEvaluator_ok g s t hg
def gS (g : Gm) (s t : List (List Int)) (a : Nat) : Int := sumI ((List.range a).map fun a => sumI ((List.range g.w.length).map (gF g s t a)))
def gT (g : Gm) (s t : List (List Int)) (a b : Nat) : Int := gS g s t a + sumI ((List.range b).map (gF g s t a))
theorem gT_zero (g : Gm) (s t : List (List Int)) (a : Nat) : gT g s t a 0 = gS g s t a := by simp [gT, sumI]
theorem gT_succ (g : Gm) (s t : List (List Int)) (a b : Nat) : gT g s t a (b + 1) = gT g s t a b + gF g s t a b := by rw [gT, sumI_rsucc, gT, Int.add_assoc]
theorem gT_all (g : Gm) (s t : List (List Int)) (a : Nat) : gT g s t a g.w.length = gS g s t (a + 1) := by rw [gT, gS, gS, sumI_rsucc]
theorem gT_abs {g : Gm} {s t : List (List Int)} (hg : isGameB g = true) (hs : partsOK g s 0) (ht : partsOK g t 1) {a b : Nat} (ha : a < g.w.length) (hb : b ≤ g.w.length) : -30000000000000 ≤ gT g s t a b ∧ gT g s t a b ≤ 30000000000000 := by
  obtain ⟨p1, p2, p3, p4, p5⟩ := isGameB_parts hg
  have h1 := gS_abs hg hs ht (n := a) (by omega)
  have h2 := gR_abs hg hs ht ha hb
  unfold gT gS
  omega
set_option maxRecDepth 20000 in
theorem impl_gameNumber_ok {g : Gm} {s t : Int × List (List Int)} (hg : isGameB g = true) (hs : partsOK g s.2 0) (ht : partsOK g t.2 1) : Pure Try.prog 121 [gameT g, stratT s, stratT t] (.i (gnum g s.2 t.2)) := by
  obtain ⟨p1, p2, p3, p4, p5⟩ := isGameB_parts hg
  obtain ⟨t1, t2, t3, t4⟩ := isTreeB_spec p1
  obtain ⟨u1, u2, u3, u4, u5, u6, u7⟩ := game_unit hg
  refine fun_impl_gameNumber (by simp) ?_
  simp -implicitDefEqProofs only [go_sem, evR, ints, rows, rat, rats, c_impl_gameNumber, gameT, stratT, nodes]
  refine CallW.res (newEv_t g s t hg) [] rfl Try.call179 ?_ (.inl rfl) ?_
  · simp -implicitDefEqProofs only [agR, Nat.reduceLeDiff, Nat.reduceSub, vaR, go_sem, ints, rows, rat, rats, ratsO, rtR, intsO, rowsO]
  simp -implicitDefEqProofs only [clR, Nat.reduceLeDiff, go_sem, evR, rat, evO, intsO, nodes, rows]
  refine CallW.pure (dep_t (impl_depthFrom_ok t2 (by omega) g.nd.length 0 (by omega) (by omega) (by omega))) [] rfl Try.call164 ?_ (by first | trivial | simp [T.noSh, T.noShL, rat]) rfl ?_
  · simp -implicitDefEqProofs only [agR, Nat.reduceLeDiff, Nat.reduceSub, vaR, go_sem, ints, rows, rat, rats, ratsO, rtR, intsO, rowsO]
  simp -implicitDefEqProofs only [go_sem, evR, ints, rows, rat, rats]
  rw [u2]
  refine SemC.loopR (σ := Nat) (fun a => St.of [(7, .own 17), (8, .t (.i (dpt g))), (9, .t (.i (gS g s.2 t.2 a))), (22, .t (rows g.w)), (23, .t (.i g.w.length)), (24, .t (.i a))] [(17, evO g s.2 t.2)]) (fun a => a ≤ g.w.length) (fun a => g.w.length - a) 0 (Weak.of _ _ [some 17] (by simp) (by simp) ?_ ?_) (by omega) fun a ha R hn hr he => ?_
  · simp -implicitDefEqProofs only [ints, rows, Nat.reduceBEq, wkR, Nat.reduceEqDiff, ↓reduceIte, wrR, gS, List.range_zero, List.map_nil, sumI]
  · exact ⟨⟨_, rfl, .refl _⟩, rfl, trivial⟩
  · rcases Nat.lt_or_ge a g.w.length with h9 | h9
    · obtain ⟨r, hr0⟩ : ∃ r, g.w[a]? = some r := ⟨_, List.getElem?_eq_getElem h9⟩
      have hrl : r.length = g.w.length := ((matK_iff.1 p3).2 r (List.mem_of_getElem? hr0)).1
      simp -implicitDefEqProofs only [go_sem, evR, ints, rows, rat, rats, evO, nodes, intsO, hr0, decide_eq_true (show (a : Int) < (g.w.length : Int) by omega)]
      refine ⟨by omega, by omega, by omega, ?_⟩
      refine SemC.loopR (σ := Nat) (fun b => St.of [(7, .own 17), (8, .t (.i (dpt g))), (9, .t (.i (gT g s.2 t.2 a b))), (10, .t (.i a)), (22, .t (rows g.w)), (23, .t (.i g.w.length)), (24, .t (.i a)), (29, .t (ints r)), (30, .t (.i r.length)), (31, .t (.i b))] [(17, evO g s.2 t.2)]) (fun b => b ≤ g.w.length) (fun b => g.w.length - b) 0 (Weak.of _ _ [some 17] (by simp) (by simp) ?_ ?_) (by omega) fun b hb R2 hn2 hr2 he2 => ?_
      · simp -implicitDefEqProofs only [ints, rows, Nat.reduceBEq, wkR, Nat.reduceEqDiff, ↓reduceIte, wrR, gT_zero]
      · exact ⟨⟨_, rfl, .refl _⟩, rfl, trivial⟩
      · rcases Nat.lt_or_ge b g.w.length with h8 | h8
        · obtain ⟨r', y, hr1, hy, hy0, hy9⟩ := game_w hg h9 h8
          rw [hr0, Option.some.injEq] at hr1
          subst hr1
          have hgs := gT_succ g s.2 t.2 a b
          have hgf := gF_abs hg hs ht h9 h8
          have k1 := gT_abs hg hs ht h9 (b := b) (by omega)
          have k2 := gT_abs hg hs ht h9 (b := b + 1) (by omega)
          have hF : gF g s.2 t.2 a b = y * val g s.2 t.2 g.nd.length 0 a b (dpt g) := by
            unfold gF; simp only [List.getD_eq_getElem?_getD, hr0, Option.getD_some, hy]
          simp -implicitDefEqProofs only [go_sem, evR, ints, rows, rat, rats, evO, nodes, intsO, hy, decide_eq_true (show (b : Int) < (r.length : Int) by omega)]
          refine ⟨by omega, by omega, by omega, fun h5 => ?_, fun h5 => ?_⟩
          · have hcall := value_t (impl_value_ok hg hs ht h9 h8 g.nd.length 0 (dpt g) (by omega) (by omega) (by omega) u3)
            refine CallW.pure hcall [17] rfl Try.call180 ?_ trivial rfl ?_
            · simp -implicitDefEqProofs only [agR, Nat.reduceLeDiff, Nat.reduceSub, vaR, go_sem, ints, rows, rat, rats, ratsO, rtR, intsO, rowsO, T.toShL.eq_1, T.toShL.eq_2]
            simp -implicitDefEqProofs only [go_sem, evR, ints, rows, rat, rats]
            refine hn2 _ (b + 1) (Weak.of _ _ [some 17] (by simp) (by simp) ?_ ?_) (by omega) (by omega)
            · simp -implicitDefEqProofs only [ints, rows, Nat.reduceBEq, wkR, Nat.reduceEqDiff, ↓reduceIte, wrR, next64 h8 (by omega), ← hF, wrap64 (n := gF g s.2 t.2 a b) (by omega) (by omega), ← hgs, wrap64 (n := gT g s.2 t.2 a (b + 1)) (by omega) (by omega)]
            · exact ⟨⟨_, rfl, .refl _⟩, rfl, trivial⟩
          · have hy0 : y = 0 := by have : ¬ y > 0 := by simpa using h5
                                   omega
            rw [hF, hy0, Int.zero_mul, Int.add_zero] at hgs
            refine hn2 _ (b + 1) (Weak.of _ _ [some 17] (by simp) (by simp) ?_ ?_) (by omega) (by omega)
            · simp -implicitDefEqProofs only [ints, rows, Nat.reduceBEq, wkR, Nat.reduceEqDiff, ↓reduceIte, wrR, next64 h8 (by omega), hgs]
            · exact ⟨⟨_, rfl, .refl _⟩, rfl, trivial⟩
        · simp -implicitDefEqProofs only [go_sem, evR, ints, rows, rat, rats, evO, nodes, intsO, decide_eq_false (show ¬ (b : Int) < (r.length : Int) by omega)]
          refine he2 _ _ ?_
          simp -implicitDefEqProofs only [go_sem, evR, ints, rows, rat, rats]
          refine hn _ (a + 1) (Weak.of _ _ [some 17] (by simp) (by simp) ?_ ?_) (by omega) (by omega)
          · simp -implicitDefEqProofs only [ints, rows, Nat.reduceBEq, wkR, Nat.reduceEqDiff, ↓reduceIte, wrR, next64 h9 (by omega), ← gT_all, show b = g.w.length by omega]
          · exact ⟨⟨_, rfl, .refl _⟩, rfl, trivial⟩
    · simp -implicitDefEqProofs only [go_sem, evR, ints, rows, rat, rats, evO, nodes, intsO, decide_eq_false (show ¬ (a : Int) < (g.w.length : Int) by omega)]
      refine he _ _ ?_
      simp -implicitDefEqProofs only [go_sem, evR, ints, rows, rat, rats]
      rw [show a = g.w.length by omega, gnum_eq]; rfl

set_option maxRecDepth 20000 in
theorem spec_l23Choice_ok {g : Gm} {s t : Int × List (List Int)} (hg : isGameB g = true) (hs : partsOK g s.2 0) (ht : partsOK g t.2 1) {i a b : Nat} (hi : i < g.nd.length) (ha : a < g.w.length) (hb : b < g.w.length) (h2 : (g.nd.getD i nd0).p ≠ 2) :
    Pure Try.prog 216 [gameT g, stratT s, stratT t, .i i, .i a, .i b] (ints (chP g s.2 t.2 i a b)) := by
  obtain ⟨p1, p2, p3, p4, p5⟩ := isGameB_parts hg
  obtain ⟨t1, t2, t3, t4⟩ := isTreeB_spec p1
  obtain ⟨x, hx⟩ : ∃ x, g.nd[i]? = some x := ⟨_, List.getElem?_eq_getElem hi⟩
  have hxd : g.nd.getD i nd0 = x := by rw [List.getD_eq_getElem?_getD, hx]; rfl
  obtain ⟨⟨r1, r2⟩, _⟩ := ndOK_fields (t2 _ _ hx)
  rw [hxd] at h2
  refine fun_spec_l23Choice (by simp) ?_
  have hcase : x.p = 0 ∨ x.p = 1 := by omega
  rcases hcase with h0 | h0
  · have hpd : (g.nd.getD i nd0).p = 0 := by rw [hxd]; exact h0
    have hrow := partsOK_row t2 (by decide) hs hi ha hpd
    have hrl := (List.getElem?_eq_some_iff.1 hrow).1
    rw [chP, if_pos hpd]
    simp -implicitDefEqProofs only [go_sem, evR, ints, rows, rat, rats, c_spec_l23Choice, gameT, stratT, nodes, nd_get0 hx, h0, show ((0 : Int) == 0) = true from rfl]
    refine ⟨by omega, by rw [nd_len]; omega, by rw [nd_len]; omega, ?_⟩
    refine CallV.pure (l23Set_t hg hi hpd ha) [] rfl Try.call221 (fun e R' hR => ?_) (by first | trivial | simp [T.noSh, T.noShL, rat]) (fun _ => rfl) ?_
    · simp -implicitDefEqProofs only [agR, Nat.reduceLeDiff, Nat.reduceSub, vaR, go_sem, ints, rows, rat, rats, ratsO, rtR, intsO, rowsO]
    simp -implicitDefEqProofs only [go_sem, evR, ints, rows, rat, rats, hrow]
    omega
  · have hpd : (g.nd.getD i nd0).p = 1 := by rw [hxd]; exact h0
    have hrow := partsOK_row t2 (by decide) ht hi hb hpd
    have hrl := (List.getElem?_eq_some_iff.1 hrow).1
    rw [chP, if_neg (by omega)]
    simp -implicitDefEqProofs only [go_sem, evR, ints, rows, rat, rats, c_spec_l23Choice, gameT, stratT, nodes, nd_get0 hx, h0, show ((1 : Int) == 0) = false from rfl]
    refine ⟨by omega, by rw [nd_len]; omega, by rw [nd_len]; omega, ?_⟩
    refine CallV.pure (l23Set_t hg hi hpd hb) [] rfl Try.call221 (fun e R' hR => ?_) (by first | trivial | simp [T.noSh, T.noShL, rat]) (fun _ => rfl) ?_
    · simp -implicitDefEqProofs only [agR, Nat.reduceLeDiff, Nat.reduceSub, vaR, go_sem, ints, rows, rat, rats, ratsO, rtR, intsO, rowsO]
    simp -implicitDefEqProofs only [go_sem, evR, ints, rows, rat, rats, hrow]
    omega
theorem choice_t {g : Gm} {s t : Int × List (List Int)} (hg : isGameB g = true) (hs : partsOK g s.2 0) (ht : partsOK g t.2 1) {i a b : Nat} (hi : i < g.nd.length) (ha : a < g.w.length) (hb : b < g.w.length) (h2 : (g.nd.getD i nd0).p ≠ 2) :
    Pure Try.prog 216 [.agg [.sh 5 (chunk nodeC g.nd), .sh 1 (g.w.map ints), .sh 1 (g.v.map ints)], .agg [.i s.1, .sh 1 (s.2.map ints)], .agg [.i t.1, .sh 1 (t.2.map ints)], .i i, .i a, .i b] (ints (chP g s.2 t.2 i a b)) := spec_l23Choice_ok hg hs ht hi ha hb h2
theorem l21Payoff_t {g : Gm} (hg : isGameB g = true) (i a b : Nat) (hi : i < g.nd.length) (ha : a < g.w.length) (hb : b < g.w.length) : Pure Try.prog 215 [.agg [.sh 5 (chunk nodeC g.nd), .sh 1 (g.w.map ints), .sh 1 (g.v.map ints)], .i i, .i a, .i b] (.i (pay g i a b)) := spec_l21Payoff_ok g hg i a b hi ha hb
theorem sval_t {g : Gm} {s t : Int × List (List Int)} {i a b p r : Int} (h : Pure Try.prog 183 [gameT g, stratT s, stratT t, .i i, .i a, .i b, .i p] (.i r)) :
    Pure Try.prog 183 [.agg [.sh 5 (chunk nodeC g.nd), .sh 1 (g.w.map ints), .sh 1 (g.v.map ints)], .agg [.i s.1, .sh 1 (s.2.map ints)], .agg [.i t.1, .sh 1 (t.2.map ints)], .i i, .i a, .i b, .i p] (.i r) := h
set_option maxRecDepth 20000 in
theorem spec_l23Value_ok {g : Gm} {s t : Int × List (List Int)} (hg : isGameB g = true) (hs : partsOK g s.2 0) (ht : partsOK g t.2 1) {a b : Nat} (ha : a < g.w.length) (hb : b < g.w.length) : ∀ (f i p : Nat), g.nd.length ≤ i + f → i < g.nd.length → dep g.nd f i ≤ p → p ≤ 5 →
    Pure Try.prog 183 [gameT g, stratT s, stratT t, .i i, .i a, .i b, .i p] (.i (val g s.2 t.2 f i a b p)) := by
  obtain ⟨p1, p2, p3, p4, p5⟩ := isGameB_parts hg
  obtain ⟨t1, t2, t3, t4⟩ := isTreeB_spec p1
  have hpay := payOK_of t2
  intro f
  induction f with
  | zero => intro i p h1 h2; omega
  | succ f ih =>
    intro i p hf hi hdp hp5
    obtain ⟨x, hx⟩ : ∃ x, g.nd[i]? = some x := ⟨_, List.getElem?_eq_getElem hi⟩
    have hxd : g.nd.getD i nd0 = x := by rw [List.getD_eq_getElem?_getD, hx]; rfl
    have hxl := (ndOK_fields (t2 _ _ hx)).2.2.2.2.2
    have hpw := pw_le5 hp5
    have hV2 : x.p = 2 → val g s.2 t.2 (f + 1) i a b p = pay g i a b * pw p := fun h => by rw [val]; (try simp only []); rw [if_pos (by rw [hxd]; exact h)]
    have hV1 : x.p ≠ 2 → ∀ n, x.ch.length ≤ n → valK g s.2 t.2 f a b (p - 1) (chP g s.2 t.2 i a b) x.ch n = val g s.2 t.2 (f + 1) i a b p := fun h n hn => by
      have := valK_all (g := g) (s := s.2) (t := t.2) (f := f) (i := i) (a := a) (b := b) (p := p) (n := n) (by rw [hxd]; exact h) (by rw [hxd]; exact hn)
      rw [hxd] at this; exact this
    generalize val g s.2 t.2 (f + 1) i a b p = V' at hV2 hV1 ⊢
    refine fun_spec_l23Value (by simp) ?_
    simp -implicitDefEqProofs only [go_sem, evR, ints, rows, rat, rats, c_spec_l23Value, gameT, stratT, nodes, nd_at hx]
    refine ⟨by omega, by rw [nd_len]; omega, by rw [nd_len]; omega, ?_⟩
    refine ⟨fun h2 => ?_, fun h2 => ?_⟩
    · have h2 : x.p = 2 := by simpa using h2
      rw [hV2 h2]
      refine CallW.pure (l21Payoff_t hg i a b hi ha hb) [] rfl Try.call215 ?_ (by first | trivial | simp [T.noSh, T.noShL, rat]) rfl ?_
      · simp -implicitDefEqProofs only [agR, Nat.reduceLeDiff, Nat.reduceSub, vaR, go_sem, ints, rows, rat, rats, ratsO, rtR, intsO, rowsO]
      simp -implicitDefEqProofs only [go_sem, evR, ints, rows, rat, rats]
      refine CallW.pure (spec_l23Power_ok p (by omega)) [] rfl Try.call157 ?_ (by first | trivial | simp [T.noSh, T.noShL, rat]) rfl ?_
      · simp -implicitDefEqProofs only [agR, Nat.reduceLeDiff, Nat.reduceSub, vaR, go_sem, ints, rows, rat, rats, ratsO, rtR, intsO, rowsO]
      simp -implicitDefEqProofs only [go_sem, evR, ints, rows, rat, rats]
      have q1 := hpay i a b
      have m1 := Int.mul_le_mul_of_nonneg_right q1.2 (show 0 ≤ pw p by omega)
      have m2 := Int.mul_le_mul_of_nonneg_right q1.1 (show 0 ≤ pw p by omega)
      rw [wrap64 (n := pay g i a b * pw p) (by omega) (by omega)]
    · have h2 : x.p ≠ 2 := by simpa using h2
      have hp2 : (g.nd.getD i nd0).p ≠ 2 := by rw [hxd]; exact h2
      obtain ⟨d1, d2⟩ := dep_child (f := f) hp2
      rw [hxd] at d2
      have hch := ndOK_child (t2 _ _ hx)
      obtain ⟨c1, c2, c3⟩ := chP_spec t2 hs ht hi ha hb hp2
      rw [hxd] at c1
      obtain ⟨p', rfl⟩ : ∃ p', p = p' + 1 := ⟨p - 1, by omega⟩
      have hpw' := pw_le5 (show p' ≤ 5 by omega)
      have hcond : ∀ c ∈ x.ch, 0 ≤ c ∧ c.toNat < g.nd.length ∧ dep g.nd f c.toNat ≤ p' := fun c hc => by
        have h1 := hch c hc
        have h3 := d2 c hc
        omega
      refine CallW.res (choice_t hg hs ht hi ha hb hp2) [] rfl Try.call216 ?_ (.inl rfl) ?_
      · simp -implicitDefEqProofs only [agR, Nat.reduceLeDiff, Nat.reduceSub, vaR, go_sem, ints, rows, rat, rats, ratsO, rtR, intsO, rowsO]
      simp -implicitDefEqProofs only [clR, Nat.reduceLeDiff, go_sem, evR, rat, ints]
      rw [Nat.add_sub_cancel] at hV1
      generalize chP g s.2 t.2 i a b = q at hV1 c1 c2 c3 ⊢
      have hKA := valK_abs t2 hs ht ha hb (f := f) c2 hcond
      refine SemC.loopR (σ := Nat) (fun k => St.of [(3, .t (.i i)), (4, .t (.i a)), (5, .t (.i b)), (6, .t (.i (p' + 1 : Nat))), (7, .own 7), (8, .own 8), (9, .own 9), (15, .own 15), (16, .t (ints q)), (17, .t (.i (valK g s.2 t.2 f a b p' q x.ch k))), (18, .t (.i k))] [(7, .box [nodes g.nd, rows g.w, rows g.v]), (8, .box [.i s.1, rows s.2]), (9, .box [.i t.1, rows t.2]), (15, .box [.i x.p, .i x.a, .i x.b, .i x.f, ints x.ch])]) (fun k => k ≤ q.length) (fun k => q.length - k) 0 (Weak.of _ _ [some 7, some 8, some 9, some 15] (by simp) (by simp) ?_ ?_) (by omega) fun k hk R hn hr he => ?_
      · simp -implicitDefEqProofs only [ints, rows, Nat.reduceBEq, wkR, Nat.reduceEqDiff, ↓reduceIte, wrR, nodes, show valK g s.2 t.2 f a b p' q x.ch 0 = 0 from rfl]
      · exact ⟨⟨_, rfl, .refl _⟩, rfl, ⟨_, rfl, .refl _⟩, rfl, ⟨_, rfl, .refl _⟩, rfl, ⟨_, rfl, .refl _⟩, rfl, trivial⟩
      · rcases Nat.lt_or_ge k q.length with h9 | h9
        · obtain ⟨y, hy⟩ : ∃ y, q[k]? = some y := ⟨_, List.getElem?_eq_getElem h9⟩
          obtain ⟨c, hc⟩ : ∃ c, x.ch[k]? = some c := ⟨_, List.getElem?_eq_getElem (by omega)⟩
          have hyb := c2 y (List.mem_of_getElem? hy)
          have hcb := hcond c (List.mem_of_getElem? hc)
          have hcb1 := hch c (List.mem_of_getElem? hc)
          have hsu := valK_succ (g := g) (s := s.2) (t := t.2) (f := f) (a := a) (b := b) (p := p') hy hc
          have k1 := hKA k (by omega) (by omega)
          have k2 := hKA (k + 1) (by omega) (by omega)
          have k3 : (k : Int) * (6000 * pw p') ≤ 4 * 4665600000000 := Int.mul_le_mul (by omega) (by omega) (by omega) (by decide)
          have k4 : ((k + 1 : Nat) : Int) * (6000 * pw p') ≤ 4 * 4665600000000 := Int.mul_le_mul (by omega) (by omega) (by omega) (by decide)
          have hcall := sval_t (ih c.toNat p' (by omega) hcb.2.1 hcb.2.2 (by omega))
          rw [show ((c.toNat : Nat) : Int) = c by omega] at hcall
          have hva := val_abs t2 hs ht ha hb f c.toNat p' hcb.2.1 hcb.2.2
          obtain ⟨m1, m2⟩ := mul_abs hyb.1 hva.1 hva.2
          have m3 : 100 * pw p' * y ≤ 77760000000 * 60 := Int.mul_le_mul (by omega) hyb.2 hyb.1 (by decide)
          simp -implicitDefEqProofs only [go_sem, evR, ints, rows, rat, rats, nodes, hy, hc, decide_eq_true (show (k : Int) < (x.ch.length : Int) by omega), wrap64 (n := (p' : Int)) (by omega) (by omega), show ((p' + 1 : Nat) : Int) - 1 = (p' : Int) by omega]
          refine ⟨by omega, by omega, by omega, by omega, by omega, by omega, ?_⟩
          refine CallV.pure hcall [] rfl Try.call183 (fun e R' hR => ?_) (by first | trivial | simp [T.noSh, T.noShL, rat]) (fun _ => rfl) ?_
          · simp -implicitDefEqProofs only [agR, Nat.reduceLeDiff, Nat.reduceSub, vaR, go_sem, ints, rows, rat, rats, ratsO, rtR, intsO, rowsO]
          simp -implicitDefEqProofs only [go_sem, evR, ints, rows, rat, rats]
          refine hn _ (k + 1) (Weak.of _ _ [some 7, some 8, some 9, some 15] (by simp) (by simp) ?_ ?_) (by omega) (by omega)
          · simp -implicitDefEqProofs only [ints, rows, Nat.reduceBEq, wkR, Nat.reduceEqDiff, ↓reduceIte, wrR, nodes, next64 h9 (by omega), wrap64 (n := y * val g s.2 t.2 f c.toNat a b p') (by omega) (by omega), ← hsu, wrap64 (n := valK g s.2 t.2 f a b p' q x.ch (k + 1)) (by omega) (by omega)]
          · exact ⟨⟨_, rfl, .refl _⟩, rfl, ⟨_, rfl, .refl _⟩, rfl, ⟨_, rfl, .refl _⟩, rfl, ⟨_, rfl, .refl _⟩, rfl, trivial⟩
        · simp -implicitDefEqProofs only [go_sem, evR, ints, rows, rat, rats, nodes, decide_eq_false (show ¬ (k : Int) < (x.ch.length : Int) by omega)]
          refine he _ _ ?_
          simp -implicitDefEqProofs only [go_sem, evR, ints, rows, rat, rats]
          rw [hV1 h2 k (by omega)]

set_option maxRecDepth 20000 in
theorem spec_l23Number_ok {g : Gm} {s t : Int × List (List Int)} (hg : isGameB g = true) (hs : partsOK g s.2 0) (ht : partsOK g t.2 1) : Pure Try.prog 125 [gameT g, stratT s, stratT t] (.i (gnum g s.2 t.2)) := by
  obtain ⟨p1, p2, p3, p4, p5⟩ := isGameB_parts hg
  obtain ⟨t1, t2, t3, t4⟩ := isTreeB_spec p1
  obtain ⟨u1, u2, u3, u4, u5, u6, u7⟩ := game_unit hg
  refine fun_spec_l23Number (by simp) ?_
  simp -implicitDefEqProofs only [go_sem, evR, ints, rows, rat, rats, c_spec_l23Number, gameT, stratT, nodes]
  refine CallW.pure (dep_t (spec_l20Depth_ok t2 (by omega) g.nd.length 0 (by omega) (by omega) (by omega))) [] rfl Try.call158 ?_ (by first | trivial | simp [T.noSh, T.noShL, rat]) rfl ?_
  · simp -implicitDefEqProofs only [agR, Nat.reduceLeDiff, Nat.reduceSub, vaR, go_sem, ints, rows, rat, rats, ratsO, rtR, intsO, rowsO]
  simp -implicitDefEqProofs only [go_sem, evR, ints, rows, rat, rats]
  rw [u2]
  refine SemC.loopR (σ := Nat) (fun a => St.of [(3, .own 3), (4, .own 4), (5, .own 5), (7, .t (.i (dpt g))), (8, .t (.i (gS g s.2 t.2 a))), (9, .t (.i a))] [(3, .box [nodes g.nd, rows g.w, rows g.v]), (4, .box [.i s.1, rows s.2]), (5, .box [.i t.1, rows t.2])]) (fun a => a ≤ g.w.length) (fun a => g.w.length - a) 0 (Weak.of _ _ [some 3, some 4, some 5] (by simp) (by simp) ?_ ?_) (by omega) fun a ha R hn hr he => ?_
  · simp -implicitDefEqProofs only [ints, rows, Nat.reduceBEq, wkR, Nat.reduceEqDiff, ↓reduceIte, wrR, nodes, gS, List.range_zero, List.map_nil, sumI]
  · exact ⟨⟨_, rfl, .refl _⟩, rfl, ⟨_, rfl, .refl _⟩, rfl, ⟨_, rfl, .refl _⟩, rfl, trivial⟩
  · rcases Nat.lt_or_ge a g.w.length with h9 | h9
    · obtain ⟨r, hr0⟩ : ∃ r, g.w[a]? = some r := ⟨_, List.getElem?_eq_getElem h9⟩
      have hrl : r.length = g.w.length := ((matK_iff.1 p3).2 r (List.mem_of_getElem? hr0)).1
      simp -implicitDefEqProofs only [go_sem, evR, ints, rows, rat, rats, nodes, hr0, decide_eq_true (show (a : Int) < (g.w.length : Int) by omega)]
      refine SemC.loopR (σ := Nat) (fun b => St.of [(3, .own 3), (4, .own 4), (5, .own 5), (7, .t (.i (dpt g))), (8, .t (.i (gT g s.2 t.2 a b))), (9, .t (.i a)), (10, .t (.i b))] [(3, .box [nodes g.nd, rows g.w, rows g.v]), (4, .box [.i s.1, rows s.2]), (5, .box [.i t.1, rows t.2])]) (fun b => b ≤ g.w.length) (fun b => g.w.length - b) 0 (Weak.of _ _ [some 3, some 4, some 5] (by simp) (by simp) ?_ ?_) (by omega) fun b hb R2 hn2 hr2 he2 => ?_
      · simp -implicitDefEqProofs only [ints, rows, Nat.reduceBEq, wkR, Nat.reduceEqDiff, ↓reduceIte, wrR, nodes, gT_zero]
      · exact ⟨⟨_, rfl, .refl _⟩, rfl, ⟨_, rfl, .refl _⟩, rfl, ⟨_, rfl, .refl _⟩, rfl, trivial⟩
      · rcases Nat.lt_or_ge b g.w.length with h8 | h8
        · obtain ⟨r', y, hr1, hy, hy0, hy9⟩ := game_w hg h9 h8
          rw [hr0, Option.some.injEq] at hr1
          subst hr1
          have hgs := gT_succ g s.2 t.2 a b
          have hgf := gF_abs hg hs ht h9 h8
          have k1 := gT_abs hg hs ht h9 (b := b) (by omega)
          have k2 := gT_abs hg hs ht h9 (b := b + 1) (by omega)
          have hF : gF g s.2 t.2 a b = y * val g s.2 t.2 g.nd.length 0 a b (dpt g) := by
            unfold gF; simp only [List.getD_eq_getElem?_getD, hr0, Option.getD_some, hy]
          have hcall := sval_t (spec_l23Value_ok (s := s) (t := t) hg hs ht h9 h8 g.nd.length 0 (dpt g) (by omega) (by omega) (by omega) u3)
          simp -implicitDefEqProofs only [go_sem, evR, ints, rows, rat, rats, nodes, hr0, hy, decide_eq_true (show (b : Int) < (g.w.length : Int) by omega)]
          refine ⟨by omega, by omega, by omega, by omega, by omega, by omega, fun h5 => ⟨by omega, by omega, by omega, by omega, by omega, by omega, ?_⟩, fun h5 => ?_⟩
          · refine CallV.pure hcall [] rfl Try.call183 (fun e R' hR => ?_) (by first | trivial | simp [T.noSh, T.noShL, rat]) (fun _ => rfl) ?_
            · simp -implicitDefEqProofs only [agR, Nat.reduceLeDiff, Nat.reduceSub, vaR, go_sem, ints, rows, rat, rats, ratsO, rtR, intsO, rowsO]
            simp -implicitDefEqProofs only [go_sem, evR, ints, rows, rat, rats]
            refine hn2 _ (b + 1) (Weak.of _ _ [some 3, some 4, some 5] (by simp) (by simp) ?_ ?_) (by omega) (by omega)
            · simp -implicitDefEqProofs only [ints, rows, Nat.reduceBEq, wkR, Nat.reduceEqDiff, ↓reduceIte, wrR, nodes, next64 h8 (by omega), ← hF, wrap64 (n := gF g s.2 t.2 a b) (by omega) (by omega), ← hgs, wrap64 (n := gT g s.2 t.2 a (b + 1)) (by omega) (by omega)]
            · exact ⟨⟨_, rfl, .refl _⟩, rfl, ⟨_, rfl, .refl _⟩, rfl, ⟨_, rfl, .refl _⟩, rfl, trivial⟩
          · have hy0 : y = 0 := by have : ¬ y > 0 := by simpa using h5
                                   omega
            rw [hF, hy0, Int.zero_mul, Int.add_zero] at hgs
            refine hn2 _ (b + 1) (Weak.of _ _ [some 3, some 4, some 5] (by simp) (by simp) ?_ ?_) (by omega) (by omega)
            · simp -implicitDefEqProofs only [ints, rows, Nat.reduceBEq, wkR, Nat.reduceEqDiff, ↓reduceIte, wrR, nodes, next64 h8 (by omega), hgs]
            · exact ⟨⟨_, rfl, .refl _⟩, rfl, ⟨_, rfl, .refl _⟩, rfl, ⟨_, rfl, .refl _⟩, rfl, trivial⟩
        · simp -implicitDefEqProofs only [go_sem, evR, ints, rows, rat, rats, nodes, decide_eq_false (show ¬ (b : Int) < (g.w.length : Int) by omega)]
          refine he2 _ _ ?_
          simp -implicitDefEqProofs only [go_sem, evR, ints, rows, rat, rats]
          refine hn _ (a + 1) (Weak.of _ _ [some 3, some 4, some 5] (by simp) (by simp) ?_ ?_) (by omega) (by omega)
          · simp -implicitDefEqProofs only [ints, rows, Nat.reduceBEq, wkR, Nat.reduceEqDiff, ↓reduceIte, wrR, nodes, next64 h9 (by omega), ← gT_all, show b = g.w.length by omega]
          · exact ⟨⟨_, rfl, .refl _⟩, rfl, ⟨_, rfl, .refl _⟩, rfl, ⟨_, rfl, .refl _⟩, rfl, trivial⟩
    · simp -implicitDefEqProofs only [go_sem, evR, ints, rows, rat, rats, nodes, decide_eq_false (show ¬ (a : Int) < (g.w.length : Int) by omega)]
      refine he _ _ ?_
      simp -implicitDefEqProofs only [go_sem, evR, ints, rows, rat, rats]
      rw [show a = g.w.length by omega, gnum_eq]; rfl
end
end Go.Ab

/- Games as data: counts, regrets and sums of the iterations. -/
set_option linter.unusedSimpArgs false
set_option linter.unusedVariables false
namespace Go.Ab

/-! Lists that are made new from the left. -/
def mixL {α : Type} (new old : List α) (i : Nat) : List α := new.take i ++ old.drop i
theorem mix_zero {α : Type} (new old : List α) : mixL new old 0 = old := by simp [mixL]
theorem mix_all {α : Type} {new old : List α} (h : new.length = old.length) : mixL new old old.length = new := by simp [mixL, ← h]
theorem mix_length {α : Type} {new old : List α} (h : new.length = old.length) {i : Nat} (hi : i ≤ old.length) : (mixL new old i).length = old.length := by simp [mixL]; omega
theorem mix_get {α : Type} {new old : List α} (h : new.length = old.length) {i : Nat} (hi : i < old.length) : (mixL new old i)[i]? = old[i]? := by
  rw [mixL, List.getElem?_append_right (by simp; omega)]
  simp [List.length_take, h, Nat.min_eq_left (Nat.le_of_lt hi)]
theorem mix_set {α : Type} {new old : List α} (h : new.length = old.length) {i : Nat} {y : α} (hy : new[i]? = some y) : (mixL new old i).set i y = mixL new old (i + 1) := by
  obtain ⟨hi, rfl⟩ := List.getElem?_eq_some_iff.1 hy
  have hl : (new.take i).length = i := by rw [List.length_take]; omega
  rw [mixL, mixL, List.set_append_right _ _ (by omega), hl, Nat.sub_self, List.drop_eq_getElem_cons (show i < old.length by omega), List.set_cons_zero, List.take_add_one, hy, Option.toList_some, List.append_assoc]; rfl
def setN (g : Gm) (pl : Int) (i : Nat) : Nat := (((sets g pl).getD i []).getD 0 0).toNat
def setC (g : Gm) (pl : Int) (i : Nat) : Nat := (((sets g pl).getD i []).getD 1 0).toNat
theorem set_parts {g : Gm} {pl : Int} {i : Nat} (h : i < (sets g pl).length) : (sets g pl)[i]? = some [(setN g pl i : Int), (setC g pl i : Int)] ∧ setN g pl i < g.nd.length ∧ setC g pl i < g.w.length ∧ (g.nd.getD (setN g pl i) nd0).p = pl ∧ sizeAt g pl i = (g.nd.getD (setN g pl i) nd0).ch.length ∧ setI g pl (setN g pl i) (setC g pl i) = i := by
  obtain ⟨n, c, x, h1, h2, h3, h4, h5, h6⟩ := set_elem h
  have e1 : setN g pl i = n := by unfold setN; rw [List.getD_eq_getElem?_getD (l := sets g pl), h1]; simp
  have e2 : setC g pl i = c := by unfold setC; rw [List.getD_eq_getElem?_getD (l := sets g pl), h1]; simp
  have e3 : g.nd.getD n nd0 = x := by rw [List.getD_eq_getElem?_getD, h2]; rfl
  rw [e1, e2, e3]
  refine ⟨h1, h3, h4, h5, h6, ?_⟩
  have hg := sets_get (g := g) (pl := pl) h3 h4 (by rw [e3]; exact h5)
  obtain ⟨n', c', hn', hc', hp', he, _⟩ := sets_find h
  have hg' := sets_get (g := g) (pl := pl) hn' hc' hp'
  rw [← he, h1] at hg'
  simp at hg'
  obtain ⟨a1, a2⟩ := hg'
  have a1 : n = n' := by omega
  have a2 : c = c' := by omega
  rw [a1, a2]; exact he.symm
structure RS where
  r0 : List (List Int)
  r1 : List (List Int)
  s0 : List (List Int)
  s1 : List (List Int)
end Go.Ab

/- The bridge, part 5: bytes. -/
set_option linter.unusedSimpArgs false
set_option linter.unusedVariables false
namespace Go.Ab

def bytes (cs : List Int) : T := .sh 1 (cs.map fun x => .v (.int .u8 x))
def bytesOK (cs : List Int) : Prop := ∀ c ∈ cs, 0 ≤ c ∧ c ≤ 255
def tyU8s : Ty := .sl 1 (.int .u8)
theorem wf8 {n : Int} (h : (Lit.int .u8 n).wf = true) : 0 ≤ n ∧ n ≤ 255 := by
  simp [Lit.wf, IntKind.min, IntKind.max, IntKind.signed, IntKind.bits] at h
  omega
theorem flat_bytes : ∀ {xs : List (List T)}, (∀ x ∈ xs, x.length = 1 ∧ (Ty.int .u8).wt x) → ∃ l : List Int, xs.flatten = (l.map fun x => T.v (.int .u8 x)) ∧ l.length = xs.length ∧ bytesOK l
  | [], _ => ⟨[], rfl, rfl, fun x hx => by simp at hx⟩
  | x :: xs, h => by
    obtain ⟨l, hl, hlen, hf⟩ := flat_bytes (xs := xs) fun y hy => h y (by simp [hy])
    obtain ⟨_, n, rfl, hw⟩ := h x (by simp)
    refine ⟨n :: l, by simp [hl], by simp [hlen], fun y hy => ?_⟩
    rcases List.mem_cons.1 hy with rfl | hy
    · exact wf8 hw
    · exact hf y hy
theorem wt_bytes {x : T} (h : tyU8s.wt [x]) : ∃ l : List Int, x = bytes l ∧ l.length ≤ 9223372036854775807 ∧ bytesOK l := by
  obtain ⟨xs, hx, hlen, hall⟩ := h
  obtain ⟨l, hl, hll, hf⟩ := flat_bytes hall
  simp only [List.cons.injEq, and_true] at hx
  exact ⟨l, by rw [hx, hl]; rfl, by rw [hll]; exact hlen, hf⟩
end Go.Ab

/- Contracts: the source of drawn numbers. -/
set_option linter.unusedSimpArgs false
set_option linter.unusedVariables false
namespace Go.Ab
open Go.Proofs

def srcT (cs : List Int) (a : Nat × Int) : T := .box [bytes cs, .i a.1, .i a.2]
def seedOK (a : Nat × Int) : Prop := 0 ≤ a.2 ∧ a.2 < 2147483647 ∧ a.1 ≤ 1000000000000
def fromS (l : List Int) : Int := l.foldl (fun s c => (s * 61 + c) % 2147483647) 45007
theorem fromS_snoc (l : List Int) (c : Int) : fromS (l ++ [c]) = (fromS l * 61 + c) % 2147483647 := by simp [fromS, List.foldl_append]
theorem fromS_bound (l : List Int) : 0 ≤ fromS l ∧ fromS l < 2147483647 := by
  rcases List.eq_nil_or_concat l with rfl | ⟨l, c, rfl⟩
  · decide
  · rw [List.concat_eq_append, fromS_snoc]
    omega
def nextS (cs : List Int) (a : Nat × Int) (n : Int) : Int × (Nat × Int) :=
  if n ≤ 1 then (0, a) else
  let s := (a.2 * 48271 + 29) % 2147483647
  if a.1 < cs.length then ((if n ≤ 256 ∧ (a.1 + 1) % 2 = 0 then cs.getD a.1 0 else s / 31 + cs.getD a.1 0) % n, (a.1 + 1, s)) else ((s / 31) % n, (a.1, s))
theorem nextS_bound {cs : List Int} {a : Nat × Int} {n : Int} (hn : 1 ≤ n) : 0 ≤ (nextS cs a n).1 ∧ (nextS cs a n).1 < n := by
  unfold nextS
  split
  · omega
  · split
    · exact ⟨Int.emod_nonneg _ (by omega), Int.emod_lt_of_pos _ (by omega)⟩
    · exact ⟨Int.emod_nonneg _ (by omega), Int.emod_lt_of_pos _ (by omega)⟩

theorem spec_l01From_ok (cs : List Int) (hc : bytesOK cs) (hl : cs.length ≤ 1000000000000) : Fun Try.prog 119 [] [.t (bytes cs)] fun o r => o = [] ∧ r = srcT cs (0, fromS (cs.take 64)) := by
  refine fun_spec_l01From (by simp) ?_
  simp -implicitDefEqProofs only [go_sem, evR, ints, rows, rat, rats, c_spec_l01From, bytes]
  refine SemC.loopR (σ := Nat) (fun i => St.of [(0, .t (bytes cs)), (3, .own 7), (4, .t (.i i))] [(7, .box [bytes cs, .i 0, .i (fromS (cs.take i))])]) (fun i => i ≤ 64 ∧ i ≤ cs.length) (fun i => 64 - i) 0 (Weak.of _ _ [some 7] (by simp) (by simp) ?_ ?_) ⟨by omega, by omega⟩ fun i hi R hn hr he => ?_
  · simp -implicitDefEqProofs only [ints, rows, Nat.reduceBEq, wkR, Nat.reduceEqDiff, ↓reduceIte, wrR, bytes]
  · exact ⟨⟨_, rfl, .refl _⟩, rfl, trivial⟩
  · simp -implicitDefEqProofs only [go_sem, evR, ints, rows, rat, rats, bytes]
    refine ⟨fun h1 => ⟨fun h2 => ⟨by omega, by omega, by omega, fun c hcc => ⟨by decide, ?_⟩⟩, fun h2 => he _ _ ?_⟩, fun h1 => he _ _ ?_⟩
    · have hb := hc c (List.mem_of_getElem? hcc)
      have hf := fromS_bound (cs.take i)
      have e := fromS_snoc (cs.take i) c
      rw [← take_snoc hcc] at e
      have hw : (IntKind.i64.wrap (IntKind.i64.wrap (fromS (cs.take i) * 61) + IntKind.i64.wrap c)).tmod 2147483647 = fromS (cs.take (i + 1)) := by
        rw [wrap64 (n := c) (by omega) (by omega), wrap64 (n := fromS (cs.take i) * 61) (by omega) (by omega), wrap64 (n := fromS (cs.take i) * 61 + c) (by omega) (by omega), Int.tmod_eq_emod_of_nonneg (by omega), e]
      rw [hw]
      refine hn _ (i + 1) (Weak.of _ _ [some 7] (by simp) (by simp) ?_ ?_) ⟨by omega, by omega⟩ (by omega)
      · simp -implicitDefEqProofs only [ints, rows, Nat.reduceBEq, wkR, Nat.reduceEqDiff, ↓reduceIte, wrR, bytes, next64 (by omega : i < cs.length) (by omega)]
      · exact ⟨⟨_, rfl, .refl _⟩, rfl, trivial⟩
    · simp -implicitDefEqProofs only [go_sem, evR, ints, rows, rat, rats, srcT, bytes]
      rw [show i = 64 by omega]; rfl
    · simp -implicitDefEqProofs only [go_sem, evR, ints, rows, rat, rats, srcT, bytes]
      have e : cs.take i = cs.take 64 := by rw [List.take_of_length_le (by omega), List.take_of_length_le (by omega)]
      rw [e]; rfl
set_option maxRecDepth 10000 in
theorem spec_l01Next_ok (cs : List Int) (hc : bytesOK cs) (hl : cs.length ≤ 100000000000) (a : Nat × Int) (ha : seedOK a) (n : Int) (hn : n ≤ 1000000000000) : Fun Try.prog 126 [srcT cs a] [.own 1000000000, .t (.i n)] fun o r => o = [srcT cs (nextS cs a n).2] ∧ r = .i (nextS cs a n).1 := by
  refine fun_spec_l01Next (by simp) ?_
  simp -implicitDefEqProofs only [go_sem, evR, ints, rows, rat, rats, c_spec_l01Next, srcT, bytes]
  obtain ⟨a1, a2⟩ := a
  obtain ⟨h1, h2, h3⟩ := ha
  simp only [] at h1 h2 h3
  have hs : (IntKind.i64.wrap (IntKind.i64.wrap (a2 * 48271) + 29)).tmod 2147483647 = (a2 * 48271 + 29) % 2147483647 := by
    rw [wrap64 (n := a2 * 48271) (by omega) (by omega), wrap64 (n := a2 * 48271 + 29) (by omega) (by omega), Int.tmod_eq_emod_of_nonneg (by omega)]
  have hs1 := Int.emod_nonneg (a2 * 48271 + 29) (show (2147483647 : Int) ≠ 0 by decide)
  have hs2 := Int.emod_lt_of_pos (a2 * 48271 + 29) (show (0 : Int) < 2147483647 by decide)
  have hw1 : IntKind.i64.wrap ((a1 : Int) + 1) = ((a1 + 1 : Nat) : Int) := by rw [wrap64 (by omega) (by omega)]; omega
  have hw2 : IntKind.i64.wrap (((a1 + 1 : Nat) : Int) - 1) = (a1 : Int) := by rw [wrap64 (by omega) (by omega)]; omega
  simp only [hs, hw1, hw2, Int.toNat_natCast]
  have hnx : nextS cs (a1, a2) n = if n ≤ 1 then (0, (a1, a2)) else if a1 < cs.length then ((if n ≤ 256 ∧ (a1 + 1) % 2 = 0 then cs.getD a1 0 else (a2 * 48271 + 29) % 2147483647 / 31 + cs.getD a1 0) % n, (a1 + 1, (a2 * 48271 + 29) % 2147483647)) else (((a2 * 48271 + 29) % 2147483647 / 31) % n, (a1, (a2 * 48271 + 29) % 2147483647)) := rfl
  generalize (a2 * 48271 + 29) % 2147483647 = s at hs1 hs2 hnx ⊢
  have hq : IntKind.i64.wrap (s.tdiv 31) = s / 31 := by rw [Int.tdiv_eq_ediv_of_nonneg hs1, wrap64 (by omega) (by omega)]
  have hq' : s.tdiv 31 = s / 31 := Int.tdiv_eq_ediv_of_nonneg hs1
  have hqs : IntKind.i64.wrap (s / 31) = s / 31 := wrap64 (by omega) (by omega)
  rw [hnx]
  by_cases hn1 : n ≤ 1
  · simp only [if_pos hn1]
    exact ⟨fun _ => by simp, fun h => absurd hn1 h⟩
  · simp only [if_neg hn1]
    refine ⟨fun h => absurd h hn1, fun _ => ⟨by decide, by decide, fun hl1 => ?_, fun hl1 => ?_⟩⟩
    · have hl2 : a1 < cs.length := by omega
      obtain ⟨c, hcc⟩ : ∃ c, cs[a1]? = some c := ⟨_, List.getElem?_eq_getElem hl2⟩
      have hcb := hc c (List.mem_of_getElem? hcc)
      have hg : cs.getD a1 0 = c := by rw [List.getD_eq_getElem?_getD, hcc]; rfl
      have hwc : IntKind.i64.wrap c = c := wrap64 (by omega) (by omega)
      simp only [if_pos hl2, hcc, hg, Option.some.injEq, forall_eq', hwc]
      have hws : IntKind.i64.wrap (s / 31 + c) = s / 31 + c := wrap64 (by omega) (by omega)
      simp only [hq', hqs, hws]
      refine ⟨by omega, by omega, by omega, fun h256 => ⟨by decide, fun he => ⟨by omega, by omega, by omega, by omega, by first | trivial | rfl, ?_⟩, fun he => ⟨by omega, by first | trivial | rfl, ?_⟩⟩, fun h256 => ⟨by omega, by first | trivial | rfl, ?_⟩⟩
      · rw [beq_iff_eq, Int.tmod_eq_emod_of_nonneg (by omega)] at he
        rw [if_pos ⟨h256, by omega⟩, Int.tmod_eq_emod_of_nonneg (by omega)]
      · rw [beq_eq_false_iff_ne, Int.tmod_eq_emod_of_nonneg (by omega)] at he
        rw [if_neg (by omega), Int.tmod_eq_emod_of_nonneg (by omega)]
      · rw [if_neg (by omega), Int.tmod_eq_emod_of_nonneg (by omega)]
    · have hl2 : ¬ a1 < cs.length := by omega
      simp only [if_neg hl2, hq', hqs]
      refine ⟨by omega, by first | trivial | rfl, ?_⟩
      rw [Int.tmod_eq_emod_of_nonneg (by omega)]
end Go.Ab

/- Contracts: picks. -/
set_option linter.unusedSimpArgs false
set_option linter.unusedVariables false
namespace Go.Ab
open Go.Proofs

theorem nextS_seed {cs : List Int} {a : Nat × Int} (hl : cs.length ≤ 100000000000) (ha : seedOK a) (n : Int) : seedOK (nextS cs a n).2 := by
  obtain ⟨h1, h2, h3⟩ := ha
  have hs1 := Int.emod_nonneg (a.2 * 48271 + 29) (show (2147483647 : Int) ≠ 0 by decide)
  have hs2 := Int.emod_lt_of_pos (a.2 * 48271 + 29) (show (0 : Int) < 2147483647 by decide)
  unfold nextS
  split
  · exact ⟨h1, h2, h3⟩
  · split
    · exact ⟨hs1, hs2, by show a.1 + 1 ≤ _; omega⟩
    · exact ⟨hs1, hs2, h3⟩
theorem seed_from (l : List Int) : seedOK (0, fromS l) := ⟨(fromS_bound l).1, (fromS_bound l).2, Nat.zero_le _⟩
def pickS (cs : List Int) (a : Nat × Int) (l : List Int) : Int × (Nat × Int) := (l.getD (nextS cs a l.length).1.toNat 0, (nextS cs a l.length).2)
theorem next_box (cs : List Int) (hc : bytesOK cs) (hl : cs.length ≤ 100000000000) (a : Nat × Int) (ha : seedOK a) (n : Int) (hn : n ≤ 1000000000000) : Fun Try.prog 126 [.box [bytes cs, .i a.1, .i a.2]] [.own 1000000000, .t (.i n)] fun o r => o = [.box [bytes cs, .i (nextS cs a n).2.1, .i (nextS cs a n).2.2]] ∧ r = .i (nextS cs a n).1 := spec_l01Next_ok cs hc hl a ha n hn
theorem pickS_seed {cs : List Int} {a : Nat × Int} (hl : cs.length ≤ 100000000000) (ha : seedOK a) (l : List Int) : seedOK (pickS cs a l).2 := nextS_seed hl ha _
theorem pick_own (cs : List Int) (hc : bytesOK cs) (hl : cs.length ≤ 100000000000) (a : Nat × Int) (ha : seedOK a) (l : List Int) (h1 : 1 ≤ l.length) (h2 : l.length ≤ 1000000) : Fun Try.prog 147 [.box [bytes cs, .i a.1, .i a.2], intsO l] [.own 1000000000, .own 1000000001] fun o r => o = [.box [bytes cs, .i (pickS cs a l).2.1, .i (pickS cs a l).2.2], intsO l] ∧ r = .i (pickS cs a l).1 := by
  have hb := nextS_bound (cs := cs) (a := a) (show (1 : Int) ≤ l.length by omega)
  obtain ⟨x, hx⟩ : ∃ x, l[(nextS cs a l.length).1.toNat]? = some x := ⟨_, List.getElem?_eq_getElem (show (nextS cs a l.length).1.toNat < l.length by omega)⟩
  have hg : (pickS cs a l).1 = x := by rw [pickS, List.getD_eq_getElem?_getD, hx]; rfl
  refine fun_spec_l01Pick (by simp) ?_
  simp -implicitDefEqProofs only [go_sem, evR, ints, rows, rat, rats, c_spec_l01Pick, intsO]
  refine CallW.ref (next_box cs hc hl a ha l.length (by omega)) [1000000000] [] rfl Try.call126 (by simp) ?_ (by simp) ?_ (.inl rfl) ?_
  · simp -implicitDefEqProofs only [srR, Nat.reduceEqDiff, ↓reduceIte, ints, rows, intsO, rowsO]
  · simp -implicitDefEqProofs only [agR, Nat.reduceLeDiff, Nat.reduceSub, vaR, go_sem, ints, rows, rat, rats, ratsO, rtR, intsO, rowsO]
  simp -implicitDefEqProofs only [clR, Nat.reduceLeDiff, go_sem, evR, rat]
  refine ⟨by omega, by omega, by omega, fun y hy => ?_⟩
  rw [hx] at hy; cases hy
  exact ⟨rfl, by rw [hg]⟩
end Go.Ab

/- Contracts: the shape of drawn trees. -/
set_option linter.unusedSimpArgs false
set_option linter.unusedVariables false
namespace Go.Ab
open Go.Proofs
def LeL (l l' : List T) : Prop := l.length = l'.length ∧ ∀ i (h : i < l.length) (h' : i < l'.length), Le l[i] l'[i]
theorem LeL.refl (l : List T) : LeL l l := ⟨rfl, fun _ _ _ => .refl _⟩
theorem LeL.cons {a a' : T} {l l' : List T} (h : Le a a') (h' : LeL l l') : LeL (a :: l) (a' :: l') := by
  refine ⟨by simp [h'.1], fun i q q' => ?_⟩
  cases i with
  | zero => exact h
  | succ i => simpa using h'.2 i (by simpa using q) (by simpa using q')
theorem LeL.append : ∀ {l l' m m' : List T}, LeL l l' → LeL m m' → LeL (l ++ m) (l' ++ m')
  | [], [], _, _, _, h => h
  | [], _ :: _, _, _, h, _ => absurd h.1 (by simp)
  | _ :: _, [], _, _, h, _ => absurd h.1 (by simp)
  | a :: l, a' :: l', m, m', h, h2 => LeL.cons (h.2 0 (by simp) (by simp)) (LeL.append ⟨by have := h.1; simpa using this, fun i q q' => by have := h.2 (i + 1) (by simpa using q) (by simpa using q'); simpa using this⟩ h2)
theorem LeL.arr {s : Nat} {l l' : List T} (h : LeL l l') : Le (.arr s l) (.arr s l') := .arr s h.1 h.2
def smallN (b : Nat) (l : List Nd) : Prop := l.length ≤ b ∧ ∀ x ∈ l, x.ch.length ≤ 8
theorem chunk_ch : ∀ (l : List Nd) (i : Nat) (x : Nd) (ch : List Int), l[i]? = some x → (chunk nodeCO l).set (i * 5 + 4) (intsO ch) = chunk nodeCO (l.set i ⟨x.p, x.a, x.b, x.f, ch⟩)
  | [], i, x, ch, h => by simp at h
  | a :: l, 0, x, ch, h => by
    simp at h; subst h
    rw [chunk_cons, List.set_cons_zero, chunk_cons]; rfl
  | a :: l, i + 1, x, ch, h => by
    rw [chunk_cons, List.set_append_right _ _ (by rw [nodeCO_len]; omega), nodeCO_len, show (i + 1) * 5 + 4 - 5 = i * 5 + 4 by omega, chunk_ch l i x ch (by simpa using h), List.set_cons_succ, chunk_cons]
theorem smallN_set {b : Nat} {l : List Nd} (h : smallN b l) (i : Nat) (x : Nd) (hx : x.ch.length ≤ 8) : smallN b (l.set i x) := by
  refine ⟨by rw [List.length_set]; exact h.1, fun y hy => ?_⟩
  rcases List.mem_or_eq_of_mem_set hy with hy | rfl
  · exact h.2 y hy
  · exact hx
section
attribute [-go_sem] load1C load1V fldC lenC idxC loadNV
set_option maxRecDepth 20000 in
theorem spec_l20Grow_L (bet : Int) (hb : 1 ≤ bet ∧ bet ≤ 1000) (B : Nat) (hB : B ≤ 1000) (M : Int) (hM : M ≤ 10000) : ∀ (r : Nat), r ≤ 2 → ∀ (l : List Nd) (pl p0 p1 : Int) (ck : Bool), smallN B l → l.length + 3 * (r + 1) ≤ B → (pl = 0 ∧ p0 < p1 ∨ pl = 1 ∧ p1 < p0) → 0 ≤ p0 → 0 ≤ p1 → p0 + 1000 * (r : Int) ≤ M → p1 + 1000 * (r : Int) ≤ M →
    ∃ l' : List Nd, smallN (l.length + 3 * (r + 1)) l' ∧ l.length < l'.length ∧ Fun Try.prog 217 [nodesO l] [.own 1000000000, .t (.i pl), .t (.i p0), .t (.i p1), .t (.i bet), .t (.i r), .t (.b ck)] fun o res => o = [.any] ∧ res = nodesO l'
  | 0, hr, l, pl, p0, p1, ck, hl, hlB, hp, q0, q1, q2, q3 => by
    have hfin : ∀ (a b : Int) (ch : List Int), ch.length ≤ 8 → Fun Try.prog 217 [nodesO l] [.own 1000000000, .t (.i pl), .t (.i p0), .t (.i p1), .t (.i bet), .t (.i (0 : Nat)), .t (.b ck)] (fun o res => o = [.any] ∧ res = .arr 5 (chunk nodeCO l ++ [.i pl, .i p0, .i p1, .i (-1), intsO ch] ++ [.i 2, .i p0, .i p1, .i pl, .v (.slice none 0 0)] ++ [.i 2, .i a, .i b, .i (-1), .v (.slice none 0 0)])) →
        ∃ l' : List Nd, smallN (l.length + 3 * (0 + 1)) l' ∧ l.length < l'.length ∧ Fun Try.prog 217 [nodesO l] [.own 1000000000, .t (.i pl), .t (.i p0), .t (.i p1), .t (.i bet), .t (.i (0 : Nat)), .t (.b ck)] fun o res => o = [.any] ∧ res = nodesO l' := fun a b ch hch hF => by
      refine ⟨l ++ [⟨pl, p0, p1, -1, ch⟩, ⟨2, p0, p1, pl, []⟩, ⟨2, a, b, -1, []⟩], ⟨by simp, fun x hx => ?_⟩, by simp, Fun.le hF ?_⟩
      · simp only [List.mem_append, List.mem_cons, List.not_mem_nil, or_false] at hx
        rcases hx with hx | rfl | rfl | rfl
        · exact hl.2 x hx
        · exact hch
        · simp
        · simp
      · rintro o res ⟨rfl, rfl⟩
        refine ⟨_, ?_, rfl, rfl⟩
        rw [nodesO, chunk_append]
        refine LeL.arr ?_
        rw [List.append_assoc, List.append_assoc]
        refine LeL.append (.refl _) ?_
        exact LeL.cons (.refl _) (LeL.cons (.refl _) (LeL.cons (.refl _) (LeL.cons (.refl _) (LeL.cons (.refl _) (LeL.cons (.refl _) (LeL.cons (.refl _) (LeL.cons (.refl _) (LeL.cons (.refl _) (LeL.cons (.nilArr 1) (LeL.cons (.refl _) (LeL.cons (.refl _) (LeL.cons (.refl _) (LeL.cons (.refl _) (LeL.cons (.nilArr 1) (.refl _)))))))))))))))
    have hnl : (chunk nodeCO l).length / 5 = l.length := chunk_div nodeCO_len (by decide) l
    have hnl5 : (chunk nodeCO l).length = l.length * 5 := chunk_length nodeCO_len l
    have hl1 := hl.1
    have hset : ∀ (x y : List T) (c d : T) (z : List T), x.length = l.length * 5 → y.length = 4 → (x ++ (y ++ c :: z)).set (l.length * 5 + 4) d = x ++ (y ++ d :: z) := fun x y c d z h1 h2 => by
      rw [List.set_append_right _ _ (by omega), List.set_append_right _ _ (by omega), show l.length * 5 + 4 - x.length - y.length = 0 by omega, List.set_cons_zero]
    rcases hp with ⟨rfl, hp⟩ | ⟨rfl, hp⟩
    · refine hfin p1 p1 [((l.length * 5 + 5) / 5 : Nat), ((l.length * 5 + 5 + 5) / 5 : Nat)] (by simp) ?_
      refine fun_spec_l20Grow (by simp) ?_
      simp -implicitDefEqProofs only [go_sem, evR, ints, rows, rat, rats, c_spec_l20Grow, nodesO, hnl, hnl5, decide_eq_true hp, (show ((0 : Int) == 1) = false from rfl), (show (((0 : Nat) : Int) == 0) = true from rfl), List.length_append, List.length_cons, List.length_nil, Bool.false_eq_true, false_implies, forall_const, true_and]
      refine ⟨by omega, by omega, by omega, by omega, by omega, by omega, ?_⟩
      rw [show l.length * 5 / 5 * 5 + 4 = l.length * 5 + 4 by omega, List.append_assoc, List.append_assoc, List.append_assoc, List.append_assoc]
      congr 1
      exact hset (chunk nodeCO l) [T.i 0, T.i p0, T.i p1, T.i (-1)] _ _ _ hnl5 rfl
    · refine hfin p0 p0 [((l.length * 5 + 5) / 5 : Nat), ((l.length * 5 + 5 + 5) / 5 : Nat)] (by simp) ?_
      refine fun_spec_l20Grow (by simp) ?_
      simp -implicitDefEqProofs only [go_sem, evR, ints, rows, rat, rats, c_spec_l20Grow, nodesO, hnl, hnl5, decide_eq_true hp, (show ((1 : Int) == 1) = true from rfl), (show (((0 : Nat) : Int) == 0) = true from rfl), List.length_append, List.length_cons, List.length_nil, Bool.false_eq_true, false_implies, forall_const, true_and]
      refine ⟨by omega, by omega, by omega, by omega, by omega, by omega, ?_⟩
      rw [show l.length * 5 / 5 * 5 + 4 = l.length * 5 + 4 by omega, List.append_assoc, List.append_assoc, List.append_assoc, List.append_assoc]
      congr 1
      exact hset (chunk nodeCO l) [T.i 1, T.i p0, T.i p1, T.i (-1)] _ _ _ hnl5 rfl
  | r + 1, hr, l, pl, p0, p1, ck, hl, hlB, hp, q0, q1, q2, q3 => by
    have hnl : (chunk nodeCO l).length / 5 = l.length := chunk_div nodeCO_len (by decide) l
    have hnl5 : (chunk nodeCO l).length = l.length * 5 := chunk_length nodeCO_len l
    have hl1 := hl.1
    have hr0 : (((r + 1 : Nat) : Int) == 0) = false := by simp; omega
    rcases hp with ⟨rfl, hp⟩ | ⟨rfl, hp⟩
    · obtain ⟨l', hl2, hl3, hrec⟩ := spec_l20Grow_L bet hb B hB M hM r (by omega) (l ++ [⟨0, p0, p1, -1, []⟩, ⟨2, p0, p1, 0, []⟩, ⟨2, p1, p1, -1, []⟩]) 1 (p1 + bet) p1 false ⟨by simp; omega, fun x hx => by
        simp only [List.mem_append, List.mem_cons, List.not_mem_nil, or_false] at hx
        rcases hx with hx | rfl | rfl | rfl
        · exact hl.2 x hx
        all_goals simp⟩ (by simp; omega) (.inr ⟨rfl, by omega⟩) (by omega) q1 (by omega) (by omega)
      simp only [List.length_append, List.length_cons, List.length_nil] at hl2 hl3
      have hnl' : (chunk nodeCO l').length = l'.length * 5 := chunk_length nodeCO_len l'
      obtain ⟨z, hz⟩ : ∃ z, l'[l.length]? = some z := ⟨_, List.getElem?_eq_getElem (by omega)⟩
      refine ⟨l'.set l.length ⟨z.p, z.a, z.b, z.f, [((l.length * 5 + 5) / 5 : Nat), ((l.length * 5 + 5 + 5) / 5 : Nat), ((l.length * 5 + 5 + 5 + 5) / 5 : Nat)]⟩, smallN_set ⟨by have := hl2.1; omega, hl2.2⟩ _ _ (by simp), by rw [List.length_set]; omega, ?_⟩
      refine fun_spec_l20Grow (by simp) ?_
      simp -implicitDefEqProofs only [go_sem, evR, ints, rows, rat, rats, c_spec_l20Grow, nodesO, hnl, hnl5, decide_eq_true hp, (show ((0 : Int) == 1) = false from rfl), (show ((0 : Int) == 0) = true from rfl), hr0, List.length_append, List.length_cons, List.length_nil, Bool.false_eq_true, false_implies, forall_const, true_and]
      have hq : l.length * 5 / 5 = l.length := by omega
      have hw0 : IntKind.i64.wrap (1 - 0) = 1 := by decide
      have hw1 : IntKind.i64.wrap (p1 + bet) = p1 + bet := wrap64 (by omega) (by omega)
      have hw2 : IntKind.i64.wrap (((r + 1 : Nat) : Int) - 1) = (r : Int) := by rw [wrap64 (by omega) (by omega)]; omega
      refine ⟨by omega, by omega, by omega, ?_⟩
      simp only [hw0, hw1, hw2, hq]
      refine CallW.weak (Weak.le 66 (t' := nodesO (l ++ [⟨0, p0, p1, -1, []⟩, ⟨2, p0, p1, 0, []⟩, ⟨2, p1, p1, -1, []⟩])) rfl ?_ rfl) ?_
      · rw [nodesO, chunk_append, List.append_assoc, List.append_assoc]
        refine LeL.arr (LeL.append (.refl _) ?_)
        exact LeL.cons (.refl _) (LeL.cons (.refl _) (LeL.cons (.refl _) (LeL.cons (.refl _) (LeL.cons (.nilArr 1) (LeL.cons (.refl _) (LeL.cons (.refl _) (LeL.cons (.refl _) (LeL.cons (.refl _) (LeL.cons (.nilArr 1) (LeL.cons (.refl _) (LeL.cons (.refl _) (LeL.cons (.refl _) (LeL.cons (.refl _) (LeL.cons (.nilArr 1) (.refl _)))))))))))))))
      refine CallW.ref hrec [66] [] rfl Try.call217 (by simp) ?_ (by simp) ?_ (.inl rfl) ?_
      · simp -implicitDefEqProofs only [srR, Nat.reduceEqDiff, ↓reduceIte, ints, rows, intsO, rowsO]
      · simp -implicitDefEqProofs only [agR, Nat.reduceLeDiff, Nat.reduceSub, vaR, go_sem, ints, rows, rat, rats, ratsO, rtR, intsO, rowsO]
      simp -implicitDefEqProofs only [clR, Nat.reduceLeDiff, go_sem, evR, rat, nodesO]
      refine ⟨by omega, by omega, by omega, ?_⟩
      rw [← chunk_ch l' l.length z _ hz]; rfl
    · obtain ⟨l', hl2, hl3, hrec⟩ := spec_l20Grow_L bet hb B hB M hM r (by omega) (l ++ [⟨1, p0, p1, -1, []⟩, ⟨2, p0, p1, 1, []⟩, ⟨2, p0, p0, -1, []⟩]) 0 p0 (p0 + bet) false ⟨by simp; omega, fun x hx => by
        simp only [List.mem_append, List.mem_cons, List.not_mem_nil, or_false] at hx
        rcases hx with hx | rfl | rfl | rfl
        · exact hl.2 x hx
        all_goals simp⟩ (by simp; omega) (.inl ⟨rfl, by omega⟩) q0 (by omega) (by omega) (by omega)
      simp only [List.length_append, List.length_cons, List.length_nil] at hl2 hl3
      have hnl' : (chunk nodeCO l').length = l'.length * 5 := chunk_length nodeCO_len l'
      obtain ⟨z, hz⟩ : ∃ z, l'[l.length]? = some z := ⟨_, List.getElem?_eq_getElem (by omega)⟩
      refine ⟨l'.set l.length ⟨z.p, z.a, z.b, z.f, [((l.length * 5 + 5) / 5 : Nat), ((l.length * 5 + 5 + 5) / 5 : Nat), ((l.length * 5 + 5 + 5 + 5) / 5 : Nat)]⟩, smallN_set ⟨by have := hl2.1; omega, hl2.2⟩ _ _ (by simp), by rw [List.length_set]; omega, ?_⟩
      refine fun_spec_l20Grow (by simp) ?_
      simp -implicitDefEqProofs only [go_sem, evR, ints, rows, rat, rats, c_spec_l20Grow, nodesO, hnl, hnl5, decide_eq_true hp, (show ((1 : Int) == 1) = true from rfl), (show ((1 : Int) == 0) = false from rfl), hr0, List.length_append, List.length_cons, List.length_nil, Bool.false_eq_true, false_implies, forall_const, true_and]
      have hq : l.length * 5 / 5 = l.length := by omega
      have hw0 : IntKind.i64.wrap (1 - 1) = 0 := by decide
      have hw1 : IntKind.i64.wrap (p0 + bet) = p0 + bet := wrap64 (by omega) (by omega)
      have hw2 : IntKind.i64.wrap (((r + 1 : Nat) : Int) - 1) = (r : Int) := by rw [wrap64 (by omega) (by omega)]; omega
      refine ⟨by omega, by omega, by omega, ?_⟩
      simp only [hw0, hw1, hw2, hq]
      refine CallW.weak (Weak.le 66 (t' := nodesO (l ++ [⟨1, p0, p1, -1, []⟩, ⟨2, p0, p1, 1, []⟩, ⟨2, p0, p0, -1, []⟩])) rfl ?_ rfl) ?_
      · rw [nodesO, chunk_append, List.append_assoc, List.append_assoc]
        refine LeL.arr (LeL.append (.refl _) ?_)
        exact LeL.cons (.refl _) (LeL.cons (.refl _) (LeL.cons (.refl _) (LeL.cons (.refl _) (LeL.cons (.nilArr 1) (LeL.cons (.refl _) (LeL.cons (.refl _) (LeL.cons (.refl _) (LeL.cons (.refl _) (LeL.cons (.nilArr 1) (LeL.cons (.refl _) (LeL.cons (.refl _) (LeL.cons (.refl _) (LeL.cons (.refl _) (LeL.cons (.nilArr 1) (.refl _)))))))))))))))
      refine CallW.ref hrec [66] [] rfl Try.call217 (by simp) ?_ (by simp) ?_ (.inl rfl) ?_
      · simp -implicitDefEqProofs only [srR, Nat.reduceEqDiff, ↓reduceIte, ints, rows, intsO, rowsO]
      · simp -implicitDefEqProofs only [agR, Nat.reduceLeDiff, Nat.reduceSub, vaR, go_sem, ints, rows, rat, rats, ratsO, rtR, intsO, rowsO]
      simp -implicitDefEqProofs only [clR, Nat.reduceLeDiff, go_sem, evR, rat, nodesO]
      refine ⟨by omega, by omega, by omega, ?_⟩
      rw [← chunk_ch l' l.length z _ hz]; rfl
set_option maxRecDepth 20000 in
theorem spec_l20Grow_C (bet : Int) (hb : 1 ≤ bet ∧ bet ≤ 1000) (r : Nat) (hr : r ≤ 2) (l : List Nd) (pl p : Int) (hl : smallN 900 l) (hp : pl = 0 ∨ pl = 1) (q0 : 0 ≤ p) (q1 : p ≤ 1000) :
    ∃ l' : List Nd, smallN (l.length + 2 + 3 * (r + 1)) l' ∧ l.length < l'.length ∧ Fun Try.prog 217 [nodesO l] [.own 1000000000, .t (.i pl), .t (.i p), .t (.i p), .t (.i bet), .t (.i r), .t (.b true)] fun o res => o = [.any] ∧ res = nodesO l' := by
  have hnl : (chunk nodeCO l).length / 5 = l.length := chunk_div nodeCO_len (by decide) l
  have hnl5 : (chunk nodeCO l).length = l.length * 5 := chunk_length nodeCO_len l
  have hl1 := hl.1
  have hq : l.length * 5 / 5 = l.length := by omega
  have hw1 : IntKind.i64.wrap (p + bet) = p + bet := wrap64 (by omega) (by omega)
  rcases hp with rfl | rfl
  · obtain ⟨l', hl2, hl3, hrec⟩ := spec_l20Grow_L bet hb 1000 (by omega) 10000 (by omega) r hr (l ++ [⟨0, p, p, -1, []⟩, ⟨2, p, p, -1, []⟩]) 1 (p + bet) p false ⟨by simp; omega, fun x hx => by
      simp only [List.mem_append, List.mem_cons, List.not_mem_nil, or_false] at hx
      rcases hx with hx | rfl | rfl
      · exact hl.2 x hx
      all_goals simp⟩ (by simp; omega) (.inr ⟨rfl, by omega⟩) (by omega) q0 (by omega) (by omega)
    simp only [List.length_append, List.length_cons, List.length_nil] at hl2 hl3
    have hnl' : (chunk nodeCO l').length = l'.length * 5 := chunk_length nodeCO_len l'
    obtain ⟨z, hz⟩ : ∃ z, l'[l.length]? = some z := ⟨_, List.getElem?_eq_getElem (by omega)⟩
    refine ⟨l'.set l.length ⟨z.p, z.a, z.b, z.f, [((l.length * 5 + 5) / 5 : Nat), ((l.length * 5 + 5 + 5) / 5 : Nat)]⟩, smallN_set ⟨by have := hl2.1; omega, hl2.2⟩ _ _ (by simp), by rw [List.length_set]; omega, ?_⟩
    refine fun_spec_l20Grow (by simp) ?_
    have hw0 : IntKind.i64.wrap (1 - 0) = 1 := by decide
    simp -implicitDefEqProofs only [go_sem, evR, ints, rows, rat, rats, c_spec_l20Grow, nodesO, hnl, hnl5, decide_eq_false (show ¬ p < p by omega), (show ((0 : Int) == 1) = false from rfl), (show ((0 : Int) == 0) = true from rfl), List.length_append, List.length_cons, List.length_nil, Bool.false_eq_true, false_implies, forall_const, true_and]
    refine ⟨by omega, by omega, ?_⟩
    simp only [hw0, hw1, hq]
    refine CallW.weak (Weak.le 84 (t' := nodesO (l ++ [⟨0, p, p, -1, []⟩, ⟨2, p, p, -1, []⟩])) rfl ?_ rfl) ?_
    · rw [nodesO, chunk_append, List.append_assoc]
      refine LeL.arr (LeL.append (.refl _) ?_)
      exact LeL.cons (.refl _) (LeL.cons (.refl _) (LeL.cons (.refl _) (LeL.cons (.refl _) (LeL.cons (.nilArr 1) (LeL.cons (.refl _) (LeL.cons (.refl _) (LeL.cons (.refl _) (LeL.cons (.refl _) (LeL.cons (.nilArr 1) (.refl _))))))))))
    refine CallW.ref hrec [84] [] rfl Try.call217 (by simp) ?_ (by simp) ?_ (.inl rfl) ?_
    · simp -implicitDefEqProofs only [srR, Nat.reduceEqDiff, ↓reduceIte, ints, rows, intsO, rowsO]
    · simp -implicitDefEqProofs only [agR, Nat.reduceLeDiff, Nat.reduceSub, vaR, go_sem, ints, rows, rat, rats, ratsO, rtR, intsO, rowsO]
    simp -implicitDefEqProofs only [clR, Nat.reduceLeDiff, go_sem, evR, rat, nodesO]
    refine ⟨by omega, by omega, by omega, ?_⟩
    rw [← chunk_ch l' l.length z _ hz]; rfl
  · obtain ⟨l', hl2, hl3, hrec⟩ := spec_l20Grow_L bet hb 1000 (by omega) 10000 (by omega) r hr (l ++ [⟨1, p, p, -1, []⟩, ⟨2, p, p, -1, []⟩]) 0 p (p + bet) false ⟨by simp; omega, fun x hx => by
      simp only [List.mem_append, List.mem_cons, List.not_mem_nil, or_false] at hx
      rcases hx with hx | rfl | rfl
      · exact hl.2 x hx
      all_goals simp⟩ (by simp; omega) (.inl ⟨rfl, by omega⟩) q0 (by omega) (by omega) (by omega)
    simp only [List.length_append, List.length_cons, List.length_nil] at hl2 hl3
    have hnl' : (chunk nodeCO l').length = l'.length * 5 := chunk_length nodeCO_len l'
    obtain ⟨z, hz⟩ : ∃ z, l'[l.length]? = some z := ⟨_, List.getElem?_eq_getElem (by omega)⟩
    refine ⟨l'.set l.length ⟨z.p, z.a, z.b, z.f, [((l.length * 5 + 5) / 5 : Nat), ((l.length * 5 + 5 + 5) / 5 : Nat)]⟩, smallN_set ⟨by have := hl2.1; omega, hl2.2⟩ _ _ (by simp), by rw [List.length_set]; omega, ?_⟩
    refine fun_spec_l20Grow (by simp) ?_
    have hw0 : IntKind.i64.wrap (1 - 1) = 0 := by decide
    simp -implicitDefEqProofs only [go_sem, evR, ints, rows, rat, rats, c_spec_l20Grow, nodesO, hnl, hnl5, decide_eq_false (show ¬ p < p by omega), (show ((1 : Int) == 1) = true from rfl), (show ((1 : Int) == 0) = false from rfl), List.length_append, List.length_cons, List.length_nil, Bool.false_eq_true, false_implies, forall_const, true_and]
    refine ⟨by omega, by omega, ?_⟩
    simp only [hw0, hw1, hq]
    refine CallW.weak (Weak.le 84 (t' := nodesO (l ++ [⟨1, p, p, -1, []⟩, ⟨2, p, p, -1, []⟩])) rfl ?_ rfl) ?_
    · rw [nodesO, chunk_append, List.append_assoc]
      refine LeL.arr (LeL.append (.refl _) ?_)
      exact LeL.cons (.refl _) (LeL.cons (.refl _) (LeL.cons (.refl _) (LeL.cons (.refl _) (LeL.cons (.nilArr 1) (LeL.cons (.refl _) (LeL.cons (.refl _) (LeL.cons (.refl _) (LeL.cons (.refl _) (LeL.cons (.nilArr 1) (.refl _))))))))))
    refine CallW.ref hrec [84] [] rfl Try.call217 (by simp) ?_ (by simp) ?_ (.inl rfl) ?_
    · simp -implicitDefEqProofs only [srR, Nat.reduceEqDiff, ↓reduceIte, ints, rows, intsO, rowsO]
    · simp -implicitDefEqProofs only [agR, Nat.reduceLeDiff, Nat.reduceSub, vaR, go_sem, ints, rows, rat, rats, ratsO, rtR, intsO, rowsO]
    simp -implicitDefEqProofs only [clR, Nat.reduceLeDiff, go_sem, evR, rat, nodesO]
    refine ⟨by omega, by omega, by omega, ?_⟩
    rw [← chunk_ch l' l.length z _ hz]; rfl
set_option maxRecDepth 20000 in
theorem spec_l20Grow_0 (bet : Int) (hb : 1 ≤ bet ∧ bet ≤ 1000) (r : Nat) (hr : r ≤ 2) (p : Int) (q0 : 0 ≤ p) (q1 : p ≤ 1000) :
    ∃ l' : List Nd, smallN 100 l' ∧ 0 < l'.length ∧ Fun Try.prog 217 [] [.t (.v (.slice none 0 0)), .t (.i 0), .t (.i p), .t (.i p), .t (.i bet), .t (.i r), .t (.b false)] fun o res => o = [] ∧ res = nodesO l' := by
  obtain ⟨l1, hl2, hl3, hC⟩ := spec_l20Grow_C bet hb r hr [⟨0, p, p, -1, []⟩] 1 p ⟨by simp, by simp⟩ (.inr rfl) q0 q1
  simp only [List.length_cons, List.length_nil] at hl2 hl3
  have h1 := hl2.1
  obtain ⟨l2, hl5, hl6, hrec⟩ := spec_l20Grow_L bet hb 1000 (by omega) 10000 (by omega) r hr l1 1 (p + bet) p false ⟨by omega, hl2.2⟩ (by omega) (.inr ⟨rfl, by omega⟩) (by omega) q0 (by omega) (by omega)
  have hnl' : (chunk nodeCO l2).length = l2.length * 5 := chunk_length nodeCO_len l2
  obtain ⟨z, hz⟩ : ∃ z, l2[0]? = some z := ⟨_, List.getElem?_eq_getElem (by omega)⟩
  refine ⟨l2.set 0 ⟨z.p, z.a, z.b, z.f, [1, ((chunk nodeCO l1).length / 5 : Nat)]⟩, smallN_set ⟨by have := hl5.1; omega, hl5.2⟩ _ _ (by simp), by rw [List.length_set]; omega, ?_⟩
  refine fun_spec_l20Grow (by simp) ?_
  have hw1 : IntKind.i64.wrap (p + bet) = p + bet := wrap64 (by omega) (by omega)
  have hw0 : IntKind.i64.wrap (1 - 0) = 1 := by decide
  simp -implicitDefEqProofs only [go_sem, evR, ints, rows, rat, rats, c_spec_l20Grow, nodesO, decide_eq_false (show ¬ p < p by omega), (show ((0 : Int) == 1) = false from rfl), (show ((0 : Int) == 0) = true from rfl), List.length_append, List.length_cons, List.length_nil, Bool.false_eq_true, false_implies, forall_const, true_and]
  simp only [hw0]
  refine CallW.weak (Weak.le 27 (t' := nodesO [⟨0, p, p, -1, []⟩]) rfl ?_ rfl) ?_
  · exact LeL.arr (LeL.cons (.refl _) (LeL.cons (.refl _) (LeL.cons (.refl _) (LeL.cons (.refl _) (LeL.cons (.nilArr 1) (.refl _))))))
  refine CallW.ref hC [27] [] rfl Try.call217 (by simp) ?_ (by simp) ?_ (.inl rfl) ?_
  · simp -implicitDefEqProofs only [srR, Nat.reduceEqDiff, ↓reduceIte, ints, rows, intsO, rowsO]
  · simp -implicitDefEqProofs only [agR, Nat.reduceLeDiff, Nat.reduceSub, vaR, go_sem, ints, rows, rat, rats, ratsO, rtR, intsO, rowsO]
  simp -implicitDefEqProofs only [clR, Nat.reduceLeDiff, go_sem, evR, rat, nodesO, (show ((0 : Int) == 0) = true from rfl), forall_const, Bool.false_eq_true, false_implies, true_and]
  simp only [hw0, hw1]
  simp only [nodesO] at hrec
  refine CallW.ref hrec [44] [] rfl Try.call217 (by simp) ?_ (by simp) ?_ (.inl rfl) ?_
  · simp -implicitDefEqProofs only [srR, Nat.reduceEqDiff, ↓reduceIte, ints, rows, intsO, rowsO]
  · simp -implicitDefEqProofs only [agR, Nat.reduceLeDiff, Nat.reduceSub, vaR, go_sem, ints, rows, rat, rats, ratsO, rtR, intsO, rowsO]
  simp -implicitDefEqProofs only [clR, Nat.reduceLeDiff, go_sem, evR, rat]
  refine ⟨by omega, by omega, ?_⟩
  rw [← chunk_ch l2 0 z _ hz]; rfl
set_option maxRecDepth 20000 in
theorem spec_BetTree_w (ante bet : Int) (r : Nat) (h0 : 0 ≤ ante) (h1 : ante ≤ 20) (b0 : 1 ≤ bet) (b1 : bet ≤ 20) (hr : r ≤ 1) :
    ∃ l' : List Nd, smallN 100 l' ∧ 0 < l'.length ∧ Fun Try.prog 184 [] [.t (.i ante), .t (.i bet), .t (.i r)] fun o res => o = [] ∧ res = .tup [.agg [nodesO l'], .i 0] := by
  obtain ⟨l', h1', h2', hG⟩ := spec_l20Grow_0 bet (by omega) r (by omega) ante h0 (by omega)
  refine ⟨l', h1', h2', ?_⟩
  refine fun_spec_BetTree (by simp) ?_
  simp -implicitDefEqProofs only [go_sem, evR, ints, rows, rat, rats, c_spec_BetTree]
  have e1 : decide (0 ≤ ante ∧ ante ≤ 100) = true := decide_eq_true (by omega)
  have e2 : decide (1 ≤ bet ∧ bet ≤ 100) = true := decide_eq_true (by omega)
  have e3 : decide ((0 : Int) ≤ (r : Int) ∧ (r : Int) ≤ 2) = true := decide_eq_true (by omega)
  refine CallW.pure (spec_l01In_ok ante 0 100) [] rfl Try.call148 ?_ (by first | trivial | simp [T.noSh, T.noShL, rat]) rfl ?_
  · simp -implicitDefEqProofs only [agR, Nat.reduceLeDiff, Nat.reduceSub, vaR, go_sem, ints, rows, rat, rats, ratsO, rtR, intsO, rowsO]
  simp -implicitDefEqProofs only [go_sem, evR, ints, rows, rat, rats, e1, Bool.not_true]
  refine CallW.pure (spec_l01In_ok bet 1 100) [] rfl Try.call148 ?_ (by first | trivial | simp [T.noSh, T.noShL, rat]) rfl ?_
  · simp -implicitDefEqProofs only [agR, Nat.reduceLeDiff, Nat.reduceSub, vaR, go_sem, ints, rows, rat, rats, ratsO, rtR, intsO, rowsO]
  simp -implicitDefEqProofs only [go_sem, evR, ints, rows, rat, rats, e2, Bool.not_true]
  refine CallW.pure (spec_l01In_ok r 0 2) [] rfl Try.call148 ?_ (by first | trivial | simp [T.noSh, T.noShL, rat]) rfl ?_
  · simp -implicitDefEqProofs only [agR, Nat.reduceLeDiff, Nat.reduceSub, vaR, go_sem, ints, rows, rat, rats, ratsO, rtR, intsO, rowsO]
  simp -implicitDefEqProofs only [go_sem, evR, ints, rows, rat, rats, e3, Bool.not_true]
  have hm : 0 ≤ bet * ((r : Int) + 1) ∧ bet * ((r : Int) + 1) ≤ 40 := by
    have : (r : Int) = 0 ∨ (r : Int) = 1 := by omega
    rcases this with h | h <;> rw [h] <;> omega
  have hw1 : IntKind.i64.wrap ((r : Int) + 1) = (r : Int) + 1 := wrap64 (by omega) (by omega)
  have hw2 : IntKind.i64.wrap (bet * ((r : Int) + 1)) = bet * ((r : Int) + 1) := wrap64 (by omega) (by omega)
  have hw3 : IntKind.i64.wrap (ante + bet * ((r : Int) + 1)) = ante + bet * ((r : Int) + 1) := wrap64 (by omega) (by omega)
  simp only [hw1, hw2, hw3]
  refine ⟨fun h => by omega, fun _ => ?_⟩
  refine CallW.res hG [] rfl Try.call217 ?_ (.inl rfl) ?_
  · simp -implicitDefEqProofs only [agR, Nat.reduceLeDiff, Nat.reduceSub, vaR, go_sem, ints, rows, rat, rats, ratsO, rtR, intsO, rowsO]
  simp -implicitDefEqProofs only [clR, Nat.reduceLeDiff, go_sem, evR, rat, nodesO]
end
end Go.Ab

/- Contracts: drawn trees, part 2: random trees, exactly. -/
set_option linter.unusedSimpArgs false
set_option linter.unusedVariables false
namespace Go.Ab
open Go.Proofs
def rndN : Nat → Nat
  | 0 => 1
  | d + 1 => 1 + 3 * rndN d
theorem rndN_ge : ∀ d, d + 1 ≤ rndN d
  | 0 => Nat.le_refl _
  | d + 1 => by have := rndN_ge d; rw [rndN]; omega
def rndEnd (cs : List Int) (l : List Nd) (z : Int × (Nat × Int)) : List Nd × (Nat × Int) :=
  if 0 ≤ IntKind.i64.wrap ((nextS cs z.2 3).1 - 1) then (l ++ [⟨2, z.1, (nextS cs (nextS cs z.2 3).2 6).1, IntKind.i64.wrap ((nextS cs z.2 3).1 - 1), []⟩], (nextS cs (nextS cs z.2 3).2 6).2)
  else (l ++ [⟨2, z.1, z.1, IntKind.i64.wrap ((nextS cs z.2 3).1 - 1), []⟩], (nextS cs z.2 3).2)
def rndStep (f : List Nd × (Nat × Int) → List Nd × (Nat × Int)) (s : (List Nd × (Nat × Int)) × List Int) : (List Nd × (Nat × Int)) × List Int := (f (s.1.1, s.1.2), s.2 ++ [(s.1.1.length : Int)])
def rndLoop (f : List Nd × (Nat × Int) → List Nd × (Nat × Int)) (s : (List Nd × (Nat × Int)) × List Int) : Nat → (List Nd × (Nat × Int)) × List Int
  | 0 => s
  | k + 1 => rndStep f (rndLoop f s k)
def setCh (l : List Nd) (i : Nat) (ch : List Int) : List Nd := match l[i]? with | some z => l.set i ⟨z.p, z.a, z.b, z.f, ch⟩ | none => l
def rndBeg (cs : List Int) (l : List Nd) (paid : Int) (b : Nat × Int) : (List Nd × (Nat × Int)) × List Int := ((l ++ [⟨(nextS cs b 2).1, paid, paid, -1, []⟩], (nextS cs (nextS cs b 2).2 3).2), [])
def rndNode (cs : List Int) (f : List Nd × (Nat × Int) → List Nd × (Nat × Int)) (l : List Nd) (paid : Int) (b : Nat × Int) : List Nd × (Nat × Int) :=
  (setCh (rndLoop f (rndBeg cs l paid b) (1 + (nextS cs (nextS cs b 2).2 3).1).toNat).1.1 l.length (rndLoop f (rndBeg cs l paid b) (1 + (nextS cs (nextS cs b 2).2 3).1).toNat).2, (rndLoop f (rndBeg cs l paid b) (1 + (nextS cs (nextS cs b 2).2 3).1).toNat).1.2)
def rndF (cs : List Int) : Nat → List Nd × (Nat × Int) → List Nd × (Nat × Int)
  | 0, s => rndEnd cs s.1 (nextS cs s.2 6)
  | d + 1, s => if 30 < s.1.length then rndEnd cs s.1 (nextS cs s.2 6)
    else if 0 < s.1.length then (if (nextS cs (nextS cs s.2 6).2 3).1 = 0 then rndEnd cs s.1 ((nextS cs s.2 6).1, (nextS cs (nextS cs s.2 6).2 3).2) else rndNode cs (rndF cs d) s.1 (nextS cs s.2 6).1 (nextS cs (nextS cs s.2 6).2 3).2)
    else rndNode cs (rndF cs d) s.1 (nextS cs s.2 6).1 (nextS cs s.2 6).2
def grown (b : Nat) (l : List Nd) (x : List Nd × (Nat × Int)) : Prop := smallN (l.length + b) x.1 ∧ l.length < x.1.length ∧ seedOK x.2
theorem mem8 {l : List Nd} {z : Nd} (h : ∀ x ∈ l, x.ch.length ≤ 8) (hz : z.ch.length ≤ 8) : ∀ x ∈ l ++ [z], x.ch.length ≤ 8 := by
  intro x hx
  rcases List.mem_append.1 hx with hx | hx
  · exact h x hx
  · simp at hx; rw [hx]; exact hz
theorem rndEnd_ok {cs : List Int} (hl : cs.length ≤ 100000000000) {l : List Nd} (hs : ∀ x ∈ l, x.ch.length ≤ 8) {z : Int × (Nat × Int)} (hz : seedOK z.2) : grown 1 l (rndEnd cs l z) := by
  have h3 := nextS_seed (cs := cs) hl hz 3
  have h6 := nextS_seed (cs := cs) hl h3 6
  unfold rndEnd
  split
  · exact ⟨⟨by simp, mem8 hs (by simp)⟩, by simp, h6⟩
  · exact ⟨⟨by simp, mem8 hs (by simp)⟩, by simp, h3⟩
theorem rndLoop_ok {f : List Nd × (Nat × Int) → List Nd × (Nat × Int)} {b : Nat} {s : (List Nd × (Nat × Int)) × List Int} (hs : ∀ x ∈ s.1.1, x.ch.length ≤ 8) (hb : seedOK s.1.2) (hc : s.2 = []) (B : Nat) : ∀ k, k ≤ 3 → s.1.1.length + k * b ≤ B → (∀ m e, seedOK e → (∀ x ∈ m, x.ch.length ≤ 8) → m.length + b ≤ B → grown b m (f (m, e))) →
    (rndLoop f s k).1.1.length ≤ s.1.1.length + k * b ∧ (∀ x ∈ (rndLoop f s k).1.1, x.ch.length ≤ 8) ∧ s.1.1.length ≤ (rndLoop f s k).1.1.length ∧ seedOK (rndLoop f s k).1.2 ∧ (rndLoop f s k).2.length = k
  | 0, _, _, _ => by
    simp only [rndLoop]
    exact ⟨by omega, hs, Nat.le_refl _, hb, by rw [hc]; rfl⟩
  | k + 1, hk, hB, hf => by
    have e : (k + 1) * b = k * b + b := by rw [Nat.add_mul]; omega
    obtain ⟨h1, h2, h3, h4, h5⟩ := rndLoop_ok hs hb hc B k (by omega) (by omega) hf
    obtain ⟨g1, g2, g3⟩ := hf (rndLoop f s k).1.1 (rndLoop f s k).1.2 h4 h2 (by omega)
    simp only [rndLoop, rndStep]
    refine ⟨?_, g1.2, by have := g2; omega, g3, by simp [h5]⟩
    have := g1.1
    rw [e]; omega
theorem setCh_small {b : Nat} {l : List Nd} (h : smallN b l) (i : Nat) {ch : List Int} (hc : ch.length ≤ 8) : smallN b (setCh l i ch) ∧ (setCh l i ch).length = l.length := by
  unfold setCh
  split
  · exact ⟨smallN_set h _ _ hc, by rw [List.length_set]⟩
  · exact ⟨h, rfl⟩
theorem rndNode_ok {cs : List Int} (hl : cs.length ≤ 100000000000) {f : List Nd × (Nat × Int) → List Nd × (Nat × Int)} {b B : Nat} (hf : ∀ m e, seedOK e → (∀ x ∈ m, x.ch.length ≤ 8) → m.length + b ≤ B → grown b m (f (m, e))) {l : List Nd} (hs : ∀ x ∈ l, x.ch.length ≤ 8) {paid : Int} {e : Nat × Int} (he : seedOK e) (hB : l.length + 1 + 3 * b ≤ B) : grown (1 + 3 * b) l (rndNode cs f l paid e) := by
  have h2 := nextS_seed (cs := cs) hl he 2
  have h3 := nextS_seed (cs := cs) hl h2 3
  have hb3 := nextS_bound (cs := cs) (a := (nextS cs e 2).2) (n := 3) (by omega)
  obtain ⟨K, hK⟩ : ∃ K : Nat, (1 + (nextS cs (nextS cs e 2).2 3).1).toNat = K := ⟨_, rfl⟩
  have hK3 : 1 ≤ K ∧ K ≤ 3 := by omega
  have hKb : K * b ≤ 3 * b := Nat.mul_le_mul_right _ hK3.2
  obtain ⟨q1, q2, q3, q4, q5⟩ := rndLoop_ok (s := rndBeg cs l paid e) (b := b) (f := f) (mem8 hs (by simp)) h3 rfl B K hK3.2 (by simp [rndBeg]; omega) hf
  have hlen : (rndBeg cs l paid e).1.1.length = l.length + 1 := by simp [rndBeg]
  rw [hlen] at q1 q3
  unfold rndNode
  rw [hK]
  have hsm : smallN (l.length + (1 + 3 * b)) (rndLoop f (rndBeg cs l paid e) K).1.1 := ⟨by omega, q2⟩
  obtain ⟨s1, s2⟩ := setCh_small hsm l.length (ch := (rndLoop f (rndBeg cs l paid e) K).2) (by omega)
  exact ⟨s1, by show l.length < (setCh _ _ _).length; rw [s2]; omega, q4⟩
theorem rndF_ok {cs : List Int} (hl : cs.length ≤ 100000000000) : ∀ (d : Nat) (l : List Nd) (a : Nat × Int), seedOK a → (∀ x ∈ l, x.ch.length ≤ 8) → grown (rndN d) l (rndF cs d (l, a))
  | 0, l, a, ha, hs => rndEnd_ok hl hs (nextS_seed hl ha 6)
  | d + 1, l, a, ha, hs => by
    have h6 := nextS_seed (cs := cs) hl ha 6
    have h3 := nextS_seed (cs := cs) hl h6 3
    have up : ∀ x, grown 1 l x → grown (rndN (d + 1)) l x := fun x h => ⟨⟨by have := h.1.1; rw [rndN]; omega, h.1.2⟩, h.2⟩
    have hf : ∀ m e, seedOK e → (∀ x ∈ m, x.ch.length ≤ 8) → m.length + rndN d ≤ l.length + 1 + 3 * rndN d → grown (rndN d) m (rndF cs d (m, e)) := fun m e he hm _ => rndF_ok hl d m e he hm
    rw [rndF]
    split
    · exact up _ (rndEnd_ok hl hs h6)
    · split
      · split
        · exact up _ (rndEnd_ok hl hs h3)
        · exact rndNode_ok hl hf hs h3 (Nat.le_refl _)
      · exact rndNode_ok hl hf hs h6 (Nat.le_refl _)
section
attribute [-go_sem] load1C load1V fldC lenC idxC loadNV
set_option maxRecDepth 20000 in
theorem spec_l20Random_ok (cs : List Int) (hc : bytesOK cs) (hl : cs.length ≤ 100000000000) (B : Nat) (hB0 : B ≤ 1000) : ∀ (d : Nat) (l : List Nd) (a : Nat × Int), seedOK a → smallN B l → l.length + rndN d ≤ B →
    Fun Try.prog 199 [.box [bytes cs, .i a.1, .i a.2], nodesO l] [.own 1000000000, .own 1000000001, .t (.i d)] fun o res => o = [.box [bytes cs, .i (rndF cs d (l, a)).2.1, .i (rndF cs d (l, a)).2.2], .any] ∧ res = nodesO (rndF cs d (l, a)).1 := by
  intro d l a ha hs hb
  refine Fun.le (Q := fun o res => o = [.box [bytes cs, .i (rndF cs d (l, a)).2.1, .i (rndF cs d (l, a)).2.2], .any] ∧ (res = nodesO (rndF cs d (l, a)).1 ∨ ∃ p q f, (rndF cs d (l, a)).1 = l ++ [⟨2, p, q, f, []⟩] ∧ res = .arr 5 (chunk nodeCO l ++ [.i 2, .i p, .i q, .i f, .v (.slice none 0 0)]))) ?_ ?_
  rotate_left
  · rintro o res ⟨rfl, rfl | ⟨p, q, f, e, rfl⟩⟩
    · exact ⟨_, .refl _, rfl, rfl⟩
    · refine ⟨nodesO (rndF cs d (l, a)).1, ?_, rfl, rfl⟩
      rw [e, nodesO, chunk_append]
      exact LeL.arr (LeL.append (.refl _) (LeL.cons (.refl _) (LeL.cons (.refl _) (LeL.cons (.refl _) (LeL.cons (.refl _) (LeL.cons (.nilArr 1) (.refl _)))))))
  have hnl : (chunk nodeCO l).length / 5 = l.length := chunk_div nodeCO_len (by decide) l
  have hnl5 : (chunk nodeCO l).length = l.length * 5 := chunk_length nodeCO_len l
  have hl1 := hs.1
  match d, hb with
  | 0, hb =>
    refine fun_spec_l20Random (by simp) ?_
    simp -implicitDefEqProofs only [go_sem, evR, ints, rows, rat, rats, c_spec_l20Random, nodesO, hnl, hnl5, (show (((0 : Nat) : Int) == 0) = true from rfl)]
    refine CallW.ref (next_box cs hc hl a ha 6 (by omega)) [1000000000] [] rfl Try.call126 (by simp) ?_ (by simp) ?_ (.inl rfl) ?_
    · simp -implicitDefEqProofs only [srR, Nat.reduceEqDiff, ↓reduceIte, ints, rows, intsO, rowsO]
    · simp -implicitDefEqProofs only [agR, Nat.reduceLeDiff, Nat.reduceSub, vaR, go_sem, ints, rows, rat, rats, ratsO, rtR, intsO, rowsO]
    simp -implicitDefEqProofs only [clR, Nat.reduceLeDiff, go_sem, evR, rat]
    have hs2 := nextS_seed (cs := cs) hl ha 6
    generalize hz : nextS cs a 6 = z at hs2 ⊢
    obtain ⟨paid, b⟩ := z
    simp only [] at hs2 ⊢
    refine ⟨fun h => absurd h (by decide), fun _ => ?_⟩
    refine CallW.ref (next_box cs hc hl b hs2 3 (by omega)) [1000000000] [] rfl Try.call126 (by simp) ?_ (by simp) ?_ (.inl rfl) ?_
    · simp -implicitDefEqProofs only [srR, Nat.reduceEqDiff, ↓reduceIte, ints, rows, intsO, rowsO]
    · simp -implicitDefEqProofs only [agR, Nat.reduceLeDiff, Nat.reduceSub, vaR, go_sem, ints, rows, rat, rats, ratsO, rtR, intsO, rowsO]
    simp -implicitDefEqProofs only [clR, Nat.reduceLeDiff, go_sem, evR, rat]
    have hs3 := nextS_seed (cs := cs) hl hs2 3
    generalize hz3 : nextS cs b 3 = z at hs3 ⊢
    obtain ⟨f, b3⟩ := z
    simp only [] at hs3 ⊢
    have hF := (show rndF cs 0 (l, a) = rndEnd cs l (paid, b) by rw [rndF, hz])
    refine ⟨fun h => ?_, fun h => ?_⟩
    · refine CallW.ref (next_box cs hc hl b3 hs3 6 (by omega)) [1000000000] [] rfl Try.call126 (by simp) ?_ (by simp) ?_ (.inl rfl) ?_
      · simp -implicitDefEqProofs only [srR, Nat.reduceEqDiff, ↓reduceIte, ints, rows, intsO, rowsO]
      · simp -implicitDefEqProofs only [agR, Nat.reduceLeDiff, Nat.reduceSub, vaR, go_sem, ints, rows, rat, rats, ratsO, rtR, intsO, rowsO]
      simp -implicitDefEqProofs only [clR, Nat.reduceLeDiff, go_sem, evR, rat]
      have hE : rndEnd cs l (paid, b) = (l ++ [⟨2, paid, (nextS cs b3 6).1, IntKind.i64.wrap (f - 1), []⟩], (nextS cs b3 6).2) := by
        simp only [rndEnd, hz3]; exact if_pos h
      rw [hF, hE]
      exact ⟨by omega, rfl, .inr ⟨paid, _, _, rfl, rfl⟩⟩
    · have hE : rndEnd cs l (paid, b) = (l ++ [⟨2, paid, paid, IntKind.i64.wrap (f - 1), []⟩], b3) := by
        simp only [rndEnd, hz3]; exact if_neg h
      rw [hF, hE]
      exact ⟨by omega, rfl, .inr ⟨paid, _, _, rfl, rfl⟩⟩
  | d + 1, hb =>
    have hB := hb
    have hdg := rndN_ge d
    simp only [rndN] at hB
    have hd0 : (((d + 1 : Nat) : Int) == 0) = false := by simp; omega
    refine fun_spec_l20Random (by simp) ?_
    simp -implicitDefEqProofs only [go_sem, evR, ints, rows, rat, rats, c_spec_l20Random, nodesO, hnl, hnl5, hd0]
    refine CallW.ref (next_box cs hc hl a ha 6 (by omega)) [1000000000] [] rfl Try.call126 (by simp) ?_ (by simp) ?_ (.inl rfl) ?_
    · simp -implicitDefEqProofs only [srR, Nat.reduceEqDiff, ↓reduceIte, ints, rows, intsO, rowsO]
    · simp -implicitDefEqProofs only [agR, Nat.reduceLeDiff, Nat.reduceSub, vaR, go_sem, ints, rows, rat, rats, ratsO, rtR, intsO, rowsO]
    simp -implicitDefEqProofs only [clR, Nat.reduceLeDiff, go_sem, evR, rat, hd0, hnl]
    have hs2 := nextS_seed (cs := cs) hl ha 6
    generalize hz : nextS cs a 6 = z at hs2 ⊢
    obtain ⟨paid, b⟩ := z
    simp only [] at hs2 ⊢
    refine ⟨fun h30 => ⟨fun h0 => ?_, fun h0 => ?_⟩, fun h30 => ?_⟩
    · refine CallW.ref (next_box cs hc hl b hs2 3 (by omega)) [1000000000] [] rfl Try.call126 (by simp) ?_ (by simp) ?_ (.inl rfl) ?_
      · simp -implicitDefEqProofs only [srR, Nat.reduceEqDiff, ↓reduceIte, ints, rows, intsO, rowsO]
      · simp -implicitDefEqProofs only [agR, Nat.reduceLeDiff, Nat.reduceSub, vaR, go_sem, ints, rows, rat, rats, ratsO, rtR, intsO, rowsO]
      simp -implicitDefEqProofs only [clR, Nat.reduceLeDiff, go_sem, evR, rat]
      have hsd := nextS_seed (cs := cs) hl hs2 3
      generalize hzd : nextS cs b 3 = z at hsd ⊢
      obtain ⟨k, bd⟩ := z
      simp only [] at hsd ⊢
      refine ⟨fun hk => ?_, fun hk => ?_⟩
      · refine CallW.ref (next_box cs hc hl bd hsd 3 (by omega)) [1000000000] [] rfl Try.call126 (by simp) ?_ (by simp) ?_ (.inl rfl) ?_
        · simp -implicitDefEqProofs only [srR, Nat.reduceEqDiff, ↓reduceIte, ints, rows, intsO, rowsO]
        · simp -implicitDefEqProofs only [agR, Nat.reduceLeDiff, Nat.reduceSub, vaR, go_sem, ints, rows, rat, rats, ratsO, rtR, intsO, rowsO]
        simp -implicitDefEqProofs only [clR, Nat.reduceLeDiff, go_sem, evR, rat]
        have hs3 := nextS_seed (cs := cs) hl hsd 3
        generalize hz3 : nextS cs bd 3 = z at hs3 ⊢
        obtain ⟨f, b3⟩ := z
        simp only [] at hs3 ⊢
        have hF := (show rndF cs (d + 1) (l, a) = rndEnd cs l (paid, bd) by rw [rndF, if_neg (show ¬ 30 < l.length by omega), if_pos (show 0 < l.length by omega), hz]; simp only [hzd]; exact if_pos (by simpa using hk))
        refine ⟨fun h => ?_, fun h => ?_⟩
        · refine CallW.ref (next_box cs hc hl b3 hs3 6 (by omega)) [1000000000] [] rfl Try.call126 (by simp) ?_ (by simp) ?_ (.inl rfl) ?_
          · simp -implicitDefEqProofs only [srR, Nat.reduceEqDiff, ↓reduceIte, ints, rows, intsO, rowsO]
          · simp -implicitDefEqProofs only [agR, Nat.reduceLeDiff, Nat.reduceSub, vaR, go_sem, ints, rows, rat, rats, ratsO, rtR, intsO, rowsO]
          simp -implicitDefEqProofs only [clR, Nat.reduceLeDiff, go_sem, evR, rat]
          have hE : rndEnd cs l (paid, bd) = (l ++ [⟨2, paid, (nextS cs b3 6).1, IntKind.i64.wrap (f - 1), []⟩], (nextS cs b3 6).2) := by
            simp only [rndEnd, hz3]; exact if_pos h
          rw [hF, hE]
          exact ⟨by omega, rfl, .inr ⟨paid, _, _, rfl, rfl⟩⟩
        · have hE : rndEnd cs l (paid, bd) = (l ++ [⟨2, paid, paid, IntKind.i64.wrap (f - 1), []⟩], b3) := by
            simp only [rndEnd, hz3]; exact if_neg h
          rw [hF, hE]
          exact ⟨by omega, rfl, .inr ⟨paid, _, _, rfl, rfl⟩⟩
      · refine CallW.ref (next_box cs hc hl bd hsd 2 (by omega)) [1000000000] [] rfl Try.call126 (by simp) ?_ (by simp) ?_ (.inl rfl) ?_
        · simp -implicitDefEqProofs only [srR, Nat.reduceEqDiff, ↓reduceIte, ints, rows, intsO, rowsO]
        · simp -implicitDefEqProofs only [agR, Nat.reduceLeDiff, Nat.reduceSub, vaR, go_sem, ints, rows, rat, rats, ratsO, rtR, intsO, rowsO]
        simp -implicitDefEqProofs only [clR, Nat.reduceLeDiff, go_sem, evR, rat, List.length_append, List.length_cons, List.length_nil, hnl5]
        have hs3 := nextS_seed (cs := cs) hl hsd 2
        have hb4 := nextS_bound (cs := cs) (a := (nextS cs bd 2).2) (n := 3) (by omega)
        have hs4 := nextS_seed (cs := cs) hl hs3 3
        have hF := (show rndF cs (d + 1) (l, a) = rndNode cs (rndF cs d) l paid bd by rw [rndF, if_neg (show ¬ 30 < l.length by omega), if_pos (show 0 < l.length by omega), hz]; simp only [hzd]; exact if_neg (by simpa using hk))
        obtain ⟨K, hK⟩ : ∃ K : Nat, (1 + (nextS cs (nextS cs bd 2).2 3).1).toNat = K := ⟨_, rfl⟩
        have hKi : 1 + (nextS cs (nextS cs bd 2).2 3).1 = (K : Int) := by omega
        have hK3 : 1 ≤ K ∧ K ≤ 3 := by omega
        have hnode : rndNode cs (rndF cs d) l paid bd = (setCh (rndLoop (rndF cs d) (rndBeg cs l paid bd) K).1.1 l.length (rndLoop (rndF cs d) (rndBeg cs l paid bd) K).2, (rndLoop (rndF cs d) (rndBeg cs l paid bd) K).1.2) := by rw [rndNode, hK]
        have hloop := fun i (hi : i ≤ K) => rndLoop_ok (s := rndBeg cs l paid bd) (b := rndN d) (f := rndF cs d) (mem8 hs.2 (by simp)) hs4 rfl B i (by omega) (by have := Nat.mul_le_mul_right (rndN d) (show i ≤ 3 by omega); simp [rndBeg]; omega) (fun m e he hm _ => rndF_ok hl d m e he hm)
        refine ⟨by omega, ?_⟩
        refine CallW.weak (Weak.le 56 (t' := nodesO (l ++ [⟨(nextS cs bd 2).1, paid, paid, -1, []⟩])) rfl ?_ rfl) ?_
        · rw [nodesO, chunk_append]
          exact LeL.arr (LeL.append (.refl _) (LeL.cons (.refl _) (LeL.cons (.refl _) (LeL.cons (.refl _) (LeL.cons (.refl _) (LeL.cons (.nilArr 1) (.refl _)))))))
        refine CallW.ref (next_box cs hc hl (nextS cs bd 2).2 hs3 3 (by omega)) [1000000000] [] rfl Try.call126 (by simp) ?_ (by simp) ?_ (.inl rfl) ?_
        · simp -implicitDefEqProofs only [srR, Nat.reduceEqDiff, ↓reduceIte, ints, rows, intsO, rowsO]
        · simp -implicitDefEqProofs only [agR, Nat.reduceLeDiff, Nat.reduceSub, vaR, go_sem, ints, rows, rat, rats, ratsO, rtR, intsO, rowsO]
        simp -implicitDefEqProofs only [clR, Nat.reduceLeDiff, go_sem, evR, rat]
        have hwq : IntKind.i64.wrap (1 + (nextS cs (nextS cs bd 2).2 3).1) = (K : Int) := by rw [wrap64 (by omega) (by omega)]; exact hKi
        have hwd : IntKind.i64.wrap (((d + 1 : Nat) : Int) - 1) = (d : Int) := by rw [wrap64 (by omega) (by omega)]; omega
        have hL0 : rndLoop (rndF cs d) (rndBeg cs l paid bd) 0 = ((l ++ [⟨(nextS cs bd 2).1, paid, paid, -1, []⟩], (nextS cs (nextS cs bd 2).2 3).2), []) := rfl
        have hLs : ∀ i, rndLoop (rndF cs d) (rndBeg cs l paid bd) (i + 1) = rndStep (rndF cs d) (rndLoop (rndF cs d) (rndBeg cs l paid bd) i) := fun i => rfl
        have hl0 : (rndBeg cs l paid bd).1.1.length = l.length + 1 := by simp [rndBeg]
        generalize hLL : rndLoop (rndF cs d) (rndBeg cs l paid bd) = L at hL0 hLs hnode hloop
        refine SemC.loopR (σ := Nat) (fun i => St.ofD [(0, .own 1000000000), (1, .own 196), (2, .t (.i ((d + 1 : Nat) : Int))), (7, .t (.i l.length)), (10, .own 197), (11, .t (.i ((K : Int) - i)))] [(1000000000, .box [bytes cs, .i (L i).1.2.1, .i (L i).1.2.2]), (196, nodesO (L i).1.1), (197, intsO (L i).2)] 1000000001) (fun i => i ≤ K) (fun i => 3 - i) 0 (Weak.ofD _ _ _ [some 1000000000, some 56, some 57] (by simp) (by simp) rfl ?_ ?_) (by omega) fun i hi R hn' hr he => ?_
        · simp -implicitDefEqProofs only [ints, rows, Nat.reduceBEq, wkR, Nat.reduceEqDiff, ↓reduceIte, wrR, hwq, Int.sub_zero, Int.natCast_zero, Int.cast_ofNat_Int, show l.length * 5 / 5 = l.length by omega]
        · rw [hL0]; exact ⟨⟨_, rfl, .refl _⟩, rfl, ⟨_, rfl, .refl _⟩, rfl, ⟨_, rfl, .refl _⟩, rfl, trivial⟩
        obtain ⟨i1, i2, i3, i4, i5⟩ := hloop i hi
        rw [hl0] at i1 i3
        have hi3 := Nat.mul_le_mul_right (rndN d) (show i ≤ 3 by omega)
        have hml : (chunk nodeCO (L i).1.1).length / 5 = (L i).1.1.length := chunk_div nodeCO_len (by decide) _
        have hml5 : (chunk nodeCO (L i).1.1).length = (L i).1.1.length * 5 := chunk_length nodeCO_len _
        rcases Nat.lt_or_ge i K with h9 | h9
        · simp -implicitDefEqProofs only [go_sem, evR, ints, rows, rat, rats, nodesO, intsO, hml, hml5, decide_eq_true (show 0 < (K : Int) - (i : Int) by omega), List.length_map]
          have hi4 := Nat.mul_le_mul_right (rndN d) (show i + 1 ≤ 3 by omega)
          rw [Nat.add_mul, Nat.one_mul] at hi4
          refine ⟨by omega, ?_⟩
          simp only [hwd]
          have hrec := spec_l20Random_ok cs hc hl B hB0 d (L i).1.1 (L i).1.2 i4 ⟨by omega, i2⟩ (by omega)
          simp only [nodesO] at hrec
          refine CallW.ref hrec [1000000000, 196] [] rfl Try.call199 (by simp) ?_ (by simp) ?_ (.inl rfl) ?_
          · simp -implicitDefEqProofs only [srR, Nat.reduceEqDiff, ↓reduceIte, ints, rows, intsO, rowsO]
          · simp -implicitDefEqProofs only [agR, Nat.reduceLeDiff, Nat.reduceSub, vaR, go_sem, ints, rows, rat, rats, ratsO, rtR, intsO, rowsO]
          simp -implicitDefEqProofs only [clR, Nat.reduceLeDiff, go_sem, evR, rat]
          refine hn' _ (i + 1) (Weak.ofD _ _ _ [some 1000000000, some 74, some 69] (by simp) (by simp) rfl ?_ ?_) (by omega) (by omega)
          · simp -implicitDefEqProofs only [ints, rows, Nat.reduceBEq, wkR, Nat.reduceEqDiff, ↓reduceIte, wrR, show IntKind.i64.wrap ((K : Int) - (i : Int) - 1) = (K : Int) - ((i + 1 : Nat) : Int) by rw [wrap64 (by omega) (by omega)]; omega]
          · rw [hLs]
            refine ⟨⟨_, rfl, .refl _⟩, rfl, ⟨_, rfl, .refl _⟩, rfl, ⟨_, rfl, ?_⟩, rfl, trivial⟩
            simp only [rndStep, intsO, List.map_append, List.map_cons, List.map_nil, show (L i).1.1.length * 5 / 5 = (L i).1.1.length by omega]; exact .refl _
        · simp -implicitDefEqProofs only [go_sem, evR, ints, rows, rat, rats, nodesO, intsO, hml, hml5, decide_eq_false (show ¬ 0 < (K : Int) - (i : Int) by omega), List.length_map]
          refine he _ _ ?_
          simp -implicitDefEqProofs only [go_sem, evR, ints, rows, rat, rats, nodesO, intsO, hml, hml5]
          obtain rfl : i = K := by omega
          obtain ⟨z, hz⟩ : ∃ z, (L i).1.1[l.length]? = some z := ⟨_, List.getElem?_eq_getElem (by omega)⟩
          refine ⟨by omega, by omega, by omega, ?_⟩
          rw [hF, hnode]
          refine ⟨rfl, .inl ?_⟩
          simp only [setCh, hz]
          rw [← chunk_ch (L i).1.1 l.length z _ hz]; rfl
    · refine CallW.ref (next_box cs hc hl b hs2 2 (by omega)) [1000000000] [] rfl Try.call126 (by simp) ?_ (by simp) ?_ (.inl rfl) ?_
      · simp -implicitDefEqProofs only [srR, Nat.reduceEqDiff, ↓reduceIte, ints, rows, intsO, rowsO]
      · simp -implicitDefEqProofs only [agR, Nat.reduceLeDiff, Nat.reduceSub, vaR, go_sem, ints, rows, rat, rats, ratsO, rtR, intsO, rowsO]
      simp -implicitDefEqProofs only [clR, Nat.reduceLeDiff, go_sem, evR, rat, List.length_append, List.length_cons, List.length_nil, hnl5]
      have hs3 := nextS_seed (cs := cs) hl hs2 2
      have hb4 := nextS_bound (cs := cs) (a := (nextS cs b 2).2) (n := 3) (by omega)
      have hs4 := nextS_seed (cs := cs) hl hs3 3
      have hF := (show rndF cs (d + 1) (l, a) = rndNode cs (rndF cs d) l paid b by rw [rndF, if_neg (show ¬ 30 < l.length by omega), if_neg (show ¬ 0 < l.length by omega), hz])
      obtain ⟨K, hK⟩ : ∃ K : Nat, (1 + (nextS cs (nextS cs b 2).2 3).1).toNat = K := ⟨_, rfl⟩
      have hKi : 1 + (nextS cs (nextS cs b 2).2 3).1 = (K : Int) := by omega
      have hK3 : 1 ≤ K ∧ K ≤ 3 := by omega
      have hnode : rndNode cs (rndF cs d) l paid b = (setCh (rndLoop (rndF cs d) (rndBeg cs l paid b) K).1.1 l.length (rndLoop (rndF cs d) (rndBeg cs l paid b) K).2, (rndLoop (rndF cs d) (rndBeg cs l paid b) K).1.2) := by rw [rndNode, hK]
      have hloop := fun i (hi : i ≤ K) => rndLoop_ok (s := rndBeg cs l paid b) (b := rndN d) (f := rndF cs d) (mem8 hs.2 (by simp)) hs4 rfl B i (by omega) (by have := Nat.mul_le_mul_right (rndN d) (show i ≤ 3 by omega); simp [rndBeg]; omega) (fun m e he hm _ => rndF_ok hl d m e he hm)
      refine ⟨by omega, ?_⟩
      refine CallW.weak (Weak.le 56 (t' := nodesO (l ++ [⟨(nextS cs b 2).1, paid, paid, -1, []⟩])) rfl ?_ rfl) ?_
      · rw [nodesO, chunk_append]
        exact LeL.arr (LeL.append (.refl _) (LeL.cons (.refl _) (LeL.cons (.refl _) (LeL.cons (.refl _) (LeL.cons (.refl _) (LeL.cons (.nilArr 1) (.refl _)))))))
      refine CallW.ref (next_box cs hc hl (nextS cs b 2).2 hs3 3 (by omega)) [1000000000] [] rfl Try.call126 (by simp) ?_ (by simp) ?_ (.inl rfl) ?_
      · simp -implicitDefEqProofs only [srR, Nat.reduceEqDiff, ↓reduceIte, ints, rows, intsO, rowsO]
      · simp -implicitDefEqProofs only [agR, Nat.reduceLeDiff, Nat.reduceSub, vaR, go_sem, ints, rows, rat, rats, ratsO, rtR, intsO, rowsO]
      simp -implicitDefEqProofs only [clR, Nat.reduceLeDiff, go_sem, evR, rat]
      have hwq : IntKind.i64.wrap (1 + (nextS cs (nextS cs b 2).2 3).1) = (K : Int) := by rw [wrap64 (by omega) (by omega)]; exact hKi
      have hwd : IntKind.i64.wrap (((d + 1 : Nat) : Int) - 1) = (d : Int) := by rw [wrap64 (by omega) (by omega)]; omega
      have hL0 : rndLoop (rndF cs d) (rndBeg cs l paid b) 0 = ((l ++ [⟨(nextS cs b 2).1, paid, paid, -1, []⟩], (nextS cs (nextS cs b 2).2 3).2), []) := rfl
      have hLs : ∀ i, rndLoop (rndF cs d) (rndBeg cs l paid b) (i + 1) = rndStep (rndF cs d) (rndLoop (rndF cs d) (rndBeg cs l paid b) i) := fun i => rfl
      have hl0 : (rndBeg cs l paid b).1.1.length = l.length + 1 := by simp [rndBeg]
      generalize hLL : rndLoop (rndF cs d) (rndBeg cs l paid b) = L at hL0 hLs hnode hloop
      refine SemC.loopR (σ := Nat) (fun i => St.ofD [(0, .own 1000000000), (1, .own 196), (2, .t (.i ((d + 1 : Nat) : Int))), (7, .t (.i l.length)), (10, .own 197), (11, .t (.i ((K : Int) - i)))] [(1000000000, .box [bytes cs, .i (L i).1.2.1, .i (L i).1.2.2]), (196, nodesO (L i).1.1), (197, intsO (L i).2)] 1000000001) (fun i => i ≤ K) (fun i => 3 - i) 0 (Weak.ofD _ _ _ [some 1000000000, some 56, some 57] (by simp) (by simp) rfl ?_ ?_) (by omega) fun i hi R hn' hr he => ?_
      · simp -implicitDefEqProofs only [ints, rows, Nat.reduceBEq, wkR, Nat.reduceEqDiff, ↓reduceIte, wrR, hwq, Int.sub_zero, Int.natCast_zero, Int.cast_ofNat_Int, show l.length * 5 / 5 = l.length by omega]
      · rw [hL0]; exact ⟨⟨_, rfl, .refl _⟩, rfl, ⟨_, rfl, .refl _⟩, rfl, ⟨_, rfl, .refl _⟩, rfl, trivial⟩
      obtain ⟨i1, i2, i3, i4, i5⟩ := hloop i hi
      rw [hl0] at i1 i3
      have hi3 := Nat.mul_le_mul_right (rndN d) (show i ≤ 3 by omega)
      have hml : (chunk nodeCO (L i).1.1).length / 5 = (L i).1.1.length := chunk_div nodeCO_len (by decide) _
      have hml5 : (chunk nodeCO (L i).1.1).length = (L i).1.1.length * 5 := chunk_length nodeCO_len _
      rcases Nat.lt_or_ge i K with h9 | h9
      · simp -implicitDefEqProofs only [go_sem, evR, ints, rows, rat, rats, nodesO, intsO, hml, hml5, decide_eq_true (show 0 < (K : Int) - (i : Int) by omega), List.length_map]
        have hi4 := Nat.mul_le_mul_right (rndN d) (show i + 1 ≤ 3 by omega)
        rw [Nat.add_mul, Nat.one_mul] at hi4
        refine ⟨by omega, ?_⟩
        simp only [hwd]
        have hrec := spec_l20Random_ok cs hc hl B hB0 d (L i).1.1 (L i).1.2 i4 ⟨by omega, i2⟩ (by omega)
        simp only [nodesO] at hrec
        refine CallW.ref hrec [1000000000, 196] [] rfl Try.call199 (by simp) ?_ (by simp) ?_ (.inl rfl) ?_
        · simp -implicitDefEqProofs only [srR, Nat.reduceEqDiff, ↓reduceIte, ints, rows, intsO, rowsO]
        · simp -implicitDefEqProofs only [agR, Nat.reduceLeDiff, Nat.reduceSub, vaR, go_sem, ints, rows, rat, rats, ratsO, rtR, intsO, rowsO]
        simp -implicitDefEqProofs only [clR, Nat.reduceLeDiff, go_sem, evR, rat]
        refine hn' _ (i + 1) (Weak.ofD _ _ _ [some 1000000000, some 74, some 69] (by simp) (by simp) rfl ?_ ?_) (by omega) (by omega)
        · simp -implicitDefEqProofs only [ints, rows, Nat.reduceBEq, wkR, Nat.reduceEqDiff, ↓reduceIte, wrR, show IntKind.i64.wrap ((K : Int) - (i : Int) - 1) = (K : Int) - ((i + 1 : Nat) : Int) by rw [wrap64 (by omega) (by omega)]; omega]
        · rw [hLs]
          refine ⟨⟨_, rfl, .refl _⟩, rfl, ⟨_, rfl, .refl _⟩, rfl, ⟨_, rfl, ?_⟩, rfl, trivial⟩
          simp only [rndStep, intsO, List.map_append, List.map_cons, List.map_nil, show (L i).1.1.length * 5 / 5 = (L i).1.1.length by omega]; exact .refl _
      · simp -implicitDefEqProofs only [go_sem, evR, ints, rows, rat, rats, nodesO, intsO, hml, hml5, decide_eq_false (show ¬ 0 < (K : Int) - (i : Int) by omega), List.length_map]
        refine he _ _ ?_
        simp -implicitDefEqProofs only [go_sem, evR, ints, rows, rat, rats, nodesO, intsO, hml, hml5]
        obtain rfl : i = K := by omega
        obtain ⟨z, hz⟩ : ∃ z, (L i).1.1[l.length]? = some z := ⟨_, List.getElem?_eq_getElem (by omega)⟩
        refine ⟨by omega, by omega, by omega, ?_⟩
        rw [hF, hnode]
        refine ⟨rfl, .inl ?_⟩
        simp only [setCh, hz]
        rw [← chunk_ch (L i).1.1 l.length z _ hz]; rfl
    · refine CallW.ref (next_box cs hc hl b hs2 3 (by omega)) [1000000000] [] rfl Try.call126 (by simp) ?_ (by simp) ?_ (.inl rfl) ?_
      · simp -implicitDefEqProofs only [srR, Nat.reduceEqDiff, ↓reduceIte, ints, rows, intsO, rowsO]
      · simp -implicitDefEqProofs only [agR, Nat.reduceLeDiff, Nat.reduceSub, vaR, go_sem, ints, rows, rat, rats, ratsO, rtR, intsO, rowsO]
      simp -implicitDefEqProofs only [clR, Nat.reduceLeDiff, go_sem, evR, rat]
      have hs3 := nextS_seed (cs := cs) hl hs2 3
      generalize hz3 : nextS cs b 3 = z at hs3 ⊢
      obtain ⟨f, b3⟩ := z
      simp only [] at hs3 ⊢
      have hF := (show rndF cs (d + 1) (l, a) = rndEnd cs l (paid, b) by rw [rndF, if_pos (show 30 < l.length by omega), hz])
      refine ⟨fun h => ?_, fun h => ?_⟩
      · refine CallW.ref (next_box cs hc hl b3 hs3 6 (by omega)) [1000000000] [] rfl Try.call126 (by simp) ?_ (by simp) ?_ (.inl rfl) ?_
        · simp -implicitDefEqProofs only [srR, Nat.reduceEqDiff, ↓reduceIte, ints, rows, intsO, rowsO]
        · simp -implicitDefEqProofs only [agR, Nat.reduceLeDiff, Nat.reduceSub, vaR, go_sem, ints, rows, rat, rats, ratsO, rtR, intsO, rowsO]
        simp -implicitDefEqProofs only [clR, Nat.reduceLeDiff, go_sem, evR, rat]
        have hE : rndEnd cs l (paid, b) = (l ++ [⟨2, paid, (nextS cs b3 6).1, IntKind.i64.wrap (f - 1), []⟩], (nextS cs b3 6).2) := by
          simp only [rndEnd, hz3]; exact if_pos h
        rw [hF, hE]
        exact ⟨by omega, rfl, .inr ⟨paid, _, _, rfl, rfl⟩⟩
      · have hE : rndEnd cs l (paid, b) = (l ++ [⟨2, paid, paid, IntKind.i64.wrap (f - 1), []⟩], b3) := by
          simp only [rndEnd, hz3]; exact if_neg h
        rw [hF, hE]
        exact ⟨by omega, rfl, .inr ⟨paid, _, _, rfl, rfl⟩⟩
end
end Go.Ab

/- Functions in compact form, with hints. -/
set_option linter.unusedVariables false
namespace Go.Ab
open Go.Proofs

def c_spec_l21Draw_h : CC :=
 (.seq (.reg [.o (.alloc 2 [.v (.slice none 0 0), .v (.slice none 0 0), .v (.slice none 0 0)])])
 ((.seq (.reg [.o (.move 5 (sl 0)),
 .o (.call (some 6) (cf 222) [(sl 5)]),
 .o (.alloc 3 [.v (.slice none 0 0), .v (.slice none 0 0), .v (.slice none 0 0)]),
 .o (.store 3 (sl 3) (sl 6))])
 ((.seq (.reg [.o (.move 7 (sl 0)),
 .o (.fld 8 1 (sl 3)),
 .o (.load1 9 (sl 8)),
 .o (.lenS 10 (sl 9)),
 .o (.call (some 11) (cf 126) [(sl 7), (sl 10)]),
 .o (.move 4 (sl 11))])
 ((.seq (.seq (.reg [.o (.move 12 (sl 0)),
 .o (.call (some 13) (cf 126) [(sl 12), (ci 24)])])
 ((.block 0 (.seq (.reg [.o (.bin 15 .eql (sl 13) (ci 0)),
 .o (.move 14 (sl 15))])
 ((.cond (sl 14) (.weak (.draw [22] [(.r false [1000000000, 23, 22], .o (.fld 16 1 (sl 3))),
 (.r false [1000000000, 23, 22], .o (.load1 17 (sl 16))),
 (.r false [1000000000, 23, 22], .o (.move 18 (sl 4))),
 (.r false [1000000000, 23, 22], .o (.idx 19 1 (sl 17) (sl 18))),
 (.r false [1000000000, 23, 22], .o (.load1 20 (sl 19))),
 (kR, .o (.move 21 (sl 0))),
 (kN, .o (.bslice 22 1 4 [(0, (ci (-1))), (1, (ci 0)), (2, (ci 9)), (3, (ci 10))])),
 (.h (some [1000000000, 22]) [], .o (.call (some 23) (cf 147) [(sl 21), (sl 22)])),
 (kR, .o (.idx 24 1 (sl 20) (ci 0))),
 (kH, .o (.store 1 (sl 24) (sl 23)))]))
 (.seq (.reg [.o (.bin 26 .eql (sl 13) (ci 1)),
 .o (.move 25 (sl 26))])
 ((.cond (sl 25) (.weak (.draw [33] [(.r false [1000000000, 34, 33], .o (.fld 27 2 (sl 3))),
 (.r false [1000000000, 34, 33], .o (.load1 28 (sl 27))),
 (.r false [1000000000, 34, 33], .o (.move 29 (sl 4))),
 (.r false [1000000000, 34, 33], .o (.idx 30 1 (sl 28) (sl 29))),
 (.r false [1000000000, 34, 33], .o (.load1 31 (sl 30))),
 (kR, .o (.move 32 (sl 0))),
 (kN, .o (.bslice 33 1 2 [(0, (ci (-2))), (1, (ci 2))])),
 (.h (some [1000000000, 33]) [], .o (.call (some 34) (cf 147) [(sl 32), (sl 33)])),
 (kR, .o (.idx 35 1 (sl 31) (ci 0))),
 (kH, .o (.store 1 (sl 35) (sl 34)))]))
 (.seq (.reg [.o (.bin 37 .eql (sl 13) (ci 2)),
 .o (.move 36 (sl 37))])
 ((.cond (sl 36) (.seq (.weak (.draw [] [(kR, .o (.fld 38 0 (sl 3))),
 (kR, .o (.loadN 39 1 (sl 38))),
 (kR, .o (.fld 40 1 (sl 3))),
 (kR, .o (.load1 41 (sl 40))),
 (kR, .o (.fld 42 2 (sl 3))),
 (kR, .o (.load1 43 (sl 42))),
 (kR, .o (.slc 44 1 (sl 43) (some (ci 1)) none)),
 (kR, .o (.build 45 [.v (.slice none 0 0), .v (.slice none 0 0), .v (.slice none 0 0)] [(0, 1), (1, 1), (2, 1)] [(0, (sl 39)), (1, (sl 41)), (2, (sl 44))])),
 (kH, .o (.store 3 (sl 2) (sl 45)))]))
 (.ret))
 (.seq (.reg [.o (.bin 47 .eql (sl 13) (ci 3)),
 .o (.move 46 (sl 47))])
 ((.cond (sl 46) (.seq (.weak (.draw [] [(kR, .o (.move 48 (sl 0))),
 (.h (some [1000000000]) [], .o (.call (some 49) (cf 223) [(sl 48)])),
 (.r false [1000000000, 49], .o (.fld 50 1 (sl 3))),
 (.r false [1000000000, 49], .o (.load1 51 (sl 50))),
 (.r false [1000000000, 49], .o (.fld 52 2 (sl 3))),
 (.r false [1000000000, 49], .o (.load1 53 (sl 52))),
 (kR, .o (.build 54 [.v (.slice none 0 0), .v (.slice none 0 0), .v (.slice none 0 0)] [(0, 1), (1, 1), (2, 1)] [(0, (sl 49)), (1, (sl 51)), (2, (sl 53))])),
 (kH, .o (.store 3 (sl 2) (sl 54)))]))
 (.ret))
 .skip)))))))))))))))
 ((.seq (.weak (.reg [.o (.loadN 55 3 (sl 3)),
 .o (.store 3 (sl 2) (sl 55))]))
 (.ret))))))))))
theorem fun_spec_l21Draw_h {rin : List T} {args : List A} {Q : List T → T → Prop} (ha : args.length ≤ 56) (h : cW Try.prog 56 c_spec_l21Draw_h (retP Try.prog [.cell 2 35] rin.length Q) (St.of (enum 0 args) (enum 1000000000 rin))) :
    Fun Try.prog 190 rin args Q :=
  Fun.of (H := ⟨[(5, 0, .r false [1000000000, 23, 22]), (5, 1, .r false [1000000000, 23, 22]), (5, 2, .r false [1000000000, 23, 22]), (5, 3, .r false [1000000000, 23, 22]), (5, 4, .r false [1000000000, 23, 22]), (5, 7, .h (some [1000000000, 22]) []), (7, 0, .r false [1000000000, 34, 33]), (7, 1, .r false [1000000000, 34, 33]), (7, 2, .r false [1000000000, 34, 33]), (7, 3, .r false [1000000000, 34, 33]), (7, 4, .r false [1000000000, 34, 33]), (7, 7, .h (some [1000000000, 33]) []), (11, 2, .r false [1000000000, 49]), (11, 3, .r false [1000000000, 49]), (11, 4, .r false [1000000000, 49]), (11, 5, .r false [1000000000, 49]), (11, 1, .h (some [1000000000]) [])], [5, 7, 9, 11, 12]⟩) Try.func190 rfl rfl rfl (by kernel_rfl) ha (by decide) h

def c_spec_l21Valid_h : CC :=
 (.seq (.reg [.o (.alloc 2 [.v (.slice none 0 0), .v (.slice none 0 0), .v (.slice none 0 0)])])
 ((.seq (.seq (.reg [.o (.move 7 (sl 0)),
 .o (.call (some 8) (cf 126) [(sl 7), (ci 6)])])
 ((.block 0 (.seq (.reg [.o (.bin 10 .eql (sl 8) (ci 0)),
 .o (.move 9 (sl 10))])
 ((.cond (sl 9) (.seq (.reg [.o (.call (some 11) (cf 127) []),
 .o (.store 3 (sl 2) (sl 11))])
 (.ret))
 (.seq (.reg [.o (.bin 13 .eql (sl 8) (ci 1)),
 .o (.move 12 (sl 13))])
 ((.cond (sl 12) (.seq (.reg [.o (.move 14 (sl 0)),
 .o (.call (some 15) (cf 227) [(sl 14)]),
 .o (.move 16 (sl 0)),
 .o (.call (some 17) (cf 126) [(sl 16), (ci 2)]),
 .o (.bin 18 .add (ci 2) (sl 17)),
 .o (.call (some 19) (cf 185) [(sl 15), (sl 18), (cb true)]),
 .o (.store 3 (sl 2) (sl 19))])
 (.ret))
 .skip)))))))))
 ((.seq (.reg [.o (.move 20 (sl 0)),
 .o (.call (some 21) (cf 126) [(sl 20), (ci 3)]),
 .o (.bin 22 .add (ci 1) (sl 21)),
 .o (.move 3 (sl 22))])
 ((.seq (.reg [.o (.move 23 (sl 0)),
 .o (.call (some 24) (cf 227) [(sl 23)]),
 .o (.move 25 (sl 3)),
 .o (.call (some 26) (cf 185) [(sl 24), (sl 25), (cb true)]),
 .o (.alloc 4 [.v (.slice none 0 0), .v (.slice none 0 0), .v (.slice none 0 0)]),
 .o (.store 3 (sl 4) (sl 26))])
 ((.seq (.seq (.reg [.o (.move 5 (ci 0))])
 ((.block 1 (.loop (.seq (.seq (.reg [.o (.move 27 (sl 5)),
 .o (.move 28 (sl 3)),
 .o (.bin 29 .lss (sl 27) (sl 28))])
 ((.cond (sl 29) .skip
 (.exit 1))))
 ((.seq (.block 2 (.seq (.reg [.o (.move 6 (ci 0))])
 ((.block 3 (.loop (.seq (.seq (.reg [.o (.move 32 (sl 6)),
 .o (.move 33 (sl 3)),
 .o (.bin 34 .lss (sl 32) (sl 33))])
 ((.cond (sl 34) .skip
 (.exit 3))))
 ((.seq (.block 4 (.seq (.weak (.draw [] [(.r false [1000000000, 44], .o (.fld 37 1 (sl 4))),
 (.r false [1000000000, 44], .o (.load1 38 (sl 37))),
 (.r false [1000000000, 44], .o (.move 39 (sl 5))),
 (.r false [1000000000, 44], .o (.idx 40 1 (sl 38) (sl 39))),
 (.r false [1000000000, 44], .o (.load1 41 (sl 40))),
 (.r false [1000000000, 44], .o (.move 42 (sl 6))),
 (kR, .o (.move 43 (sl 0))),
 (.h (some [1000000000]) [], .o (.call (some 44) (cf 126) [(sl 43), (ci 4)])),
 (kR, .o (.idx 45 1 (sl 41) (sl 42))),
 (kH, .o (.store 1 (sl 45) (sl 44)))]))
 ((.seq (.reg [.o (.move 46 (sl 0)),
 .o (.call (some 47) (cf 126) [(sl 46), (ci 4)]),
 .o (.bin 48 .eql (sl 47) (ci 0))])
 ((.cond (sl 48) (.weak (.draw [] [(.r false [1000000000, 56], .o (.fld 49 2 (sl 4))),
 (.r false [1000000000, 56], .o (.load1 50 (sl 49))),
 (.r false [1000000000, 56], .o (.move 51 (sl 5))),
 (.r false [1000000000, 56], .o (.idx 52 1 (sl 50) (sl 51))),
 (.r false [1000000000, 56], .o (.load1 53 (sl 52))),
 (.r false [1000000000, 56], .o (.move 54 (sl 6))),
 (kR, .o (.move 55 (sl 0))),
 (.h (some [1000000000]) [], .o (.call (some 56) (cf 126) [(sl 55), (ci 3)])),
 (kR, .o (.bin 57 .sub (sl 56) (ci 1))),
 (kR, .o (.idx 58 1 (sl 53) (sl 54))),
 (kH, .o (.store 1 (sl 58) (sl 57)))]))
 .skip))))))
 ((.reg [.o (.move 35 (sl 6)),
 .o (.bin 36 .add (sl 35) (ci 1)),
 .o (.move 6 (sl 36))]))))))))))
 ((.reg [.o (.move 30 (sl 5)),
 .o (.bin 31 .add (sl 30) (ci 1)),
 .o (.move 5 (sl 31))])))))))))
 ((.seq (.weak (.draw [] [(kR, .o (.fld 59 1 (sl 4))),
 (kR, .o (.load1 60 (sl 59))),
 (kR, .o (.idx 61 1 (sl 60) (ci 0))),
 (kR, .o (.load1 62 (sl 61))),
 (kR, .o (.fld 63 1 (sl 4))),
 (kR, .o (.load1 64 (sl 63))),
 (kR, .o (.idx 65 1 (sl 64) (ci 0))),
 (kR, .o (.load1 66 (sl 65))),
 (kR, .o (.idx 67 1 (sl 66) (ci 0))),
 (kR, .o (.load1 68 (sl 67))),
 (kR, .o (.mm 69 true (ci 1) (sl 68))),
 (kR, .o (.idx 70 1 (sl 62) (ci 0))),
 (kH, .o (.store 1 (sl 70) (sl 69)))]))
 ((.seq (.weak (.reg [.o (.loadN 71 3 (sl 4)),
 .o (.store 3 (sl 2) (sl 71))]))
 (.ret))))))))))))))
theorem fun_spec_l21Valid_h {rin : List T} {args : List A} {Q : List T → T → Prop} (ha : args.length ≤ 72) (h : cW Try.prog 72 c_spec_l21Valid_h (retP Try.prog [.cell 2 35] rin.length Q) (St.of (enum 0 args) (enum 1000000000 rin))) :
    Fun Try.prog 222 rin args Q :=
  Fun.of (H := ⟨[(14, 0, .r false [1000000000, 44]), (14, 1, .r false [1000000000, 44]), (14, 2, .r false [1000000000, 44]), (14, 3, .r false [1000000000, 44]), (14, 4, .r false [1000000000, 44]), (14, 5, .r false [1000000000, 44]), (14, 7, .h (some [1000000000]) []), (16, 0, .r false [1000000000, 56]), (16, 1, .r false [1000000000, 56]), (16, 2, .r false [1000000000, 56]), (16, 3, .r false [1000000000, 56]), (16, 4, .r false [1000000000, 56]), (16, 5, .r false [1000000000, 56]), (16, 7, .h (some [1000000000]) [])], [14, 16, 17, 18]⟩) Try.func222 rfl rfl rfl (by kernel_rfl) ha (by decide) h

def c_spec_l20Draw_h : CC :=
 (.seq (.reg [.o (.alloc 2 [.v (.slice none 0 0)])])
 ((.seq (.reg [.o (.move 5 (sl 0)),
 .o (.call (some 6) (cf 227) [(sl 5)]),
 .o (.alloc 3 [.v (.slice none 0 0)]),
 .o (.store 1 (sl 3) (sl 6))])
 ((.seq (.reg [.o (.move 7 (sl 0)),
 .o (.fld 8 0 (sl 3)),
 .o (.load1 9 (sl 8)),
 .o (.lenS 10 (sl 9)),
 .o (.call (some 11) (cf 126) [(sl 7), (sl 10)]),
 .o (.move 4 (sl 11))])
 ((.seq (.seq (.reg [.o (.move 12 (sl 0)),
 .o (.call (some 13) (cf 126) [(sl 12), (ci 30)])])
 ((.block 0 (.seq (.reg [.o (.bin 15 .eql (sl 13) (ci 0)),
 .o (.move 14 (sl 15))])
 ((.cond (sl 14) (.draw [20] [(.r false [1000000000, 21, 20], .o (.fld 16 0 (sl 3))),
 (.r false [1000000000, 21, 20], .o (.load1 17 (sl 16))),
 (.r false [1000000000, 21, 20], .o (.move 18 (sl 4))),
 (kR, .o (.move 19 (sl 0))),
 (kN, .o (.bslice 20 1 5 [(0, (ci (-1))), (1, (ci 0)), (2, (ci 1)), (3, (ci 2)), (4, (ci 3))])),
 (.h (some [1000000000, 20]) [], .o (.call (some 21) (cf 147) [(sl 19), (sl 20)])),
 (kR, .o (.idx 22 5 (sl 17) (sl 18))),
 (kR, .o (.fld 23 0 (sl 22))),
 (kH, .o (.store 1 (sl 23) (sl 21)))])
 (.seq (.reg [.o (.bin 25 .eql (sl 13) (ci 1)),
 .o (.move 24 (sl 25))])
 ((.cond (sl 24) (.draw [30] [(.r false [1000000000, 31, 30], .o (.fld 26 0 (sl 3))),
 (.r false [1000000000, 31, 30], .o (.load1 27 (sl 26))),
 (.r false [1000000000, 31, 30], .o (.move 28 (sl 4))),
 (kR, .o (.move 29 (sl 0))),
 (kN, .o (.bslice 30 1 4 [(0, (ci (-1))), (1, (ci 0)), (2, (ci 100)), (3, (ci 101))])),
 (.h (some [1000000000, 30]) [], .o (.call (some 31) (cf 147) [(sl 29), (sl 30)])),
 (kR, .o (.idx 32 5 (sl 27) (sl 28))),
 (kR, .o (.fld 33 1 (sl 32))),
 (kH, .o (.store 1 (sl 33) (sl 31)))])
 (.seq (.reg [.o (.bin 35 .eql (sl 13) (ci 2)),
 .o (.move 34 (sl 35))])
 ((.cond (sl 34) (.draw [40] [(.r false [1000000000, 41, 40], .o (.fld 36 0 (sl 3))),
 (.r false [1000000000, 41, 40], .o (.load1 37 (sl 36))),
 (.r false [1000000000, 41, 40], .o (.move 38 (sl 4))),
 (kR, .o (.move 39 (sl 0))),
 (kN, .o (.bslice 40 1 4 [(0, (ci (-2))), (1, (ci (-1))), (2, (ci 0)), (3, (ci 2))])),
 (.h (some [1000000000, 40]) [], .o (.call (some 41) (cf 147) [(sl 39), (sl 40)])),
 (kR, .o (.idx 42 5 (sl 37) (sl 38))),
 (kR, .o (.fld 43 3 (sl 42))),
 (kH, .o (.store 1 (sl 43) (sl 41)))])
 (.seq (.reg [.o (.bin 45 .eql (sl 13) (ci 3)),
 .o (.move 44 (sl 45))])
 ((.cond (sl 44) (.reg [.o (.fld 46 0 (sl 3)),
 .o (.load1 47 (sl 46)),
 .o (.bslice 48 1 2 [(0, (ci 1)), (1, (ci 1))]),
 .o (.idx 49 5 (sl 47) (ci 0)),
 .o (.fld 50 4 (sl 49)),
 .o (.store 1 (sl 50) (sl 48))])
 (.seq (.reg [.o (.bin 52 .eql (sl 13) (ci 4)),
 .o (.move 51 (sl 52))])
 ((.cond (sl 51) (.seq (.weak (.reg [.o (.fld 53 0 (sl 3)),
 .o (.load1 54 (sl 53)),
 .o (.move 55 (sl 4)),
 .o (.slc 56 5 (sl 54) none (some (sl 55))),
 .o (.build 57 [.v (.slice none 0 0)] [(0, 1)] [(0, (sl 56))]),
 .o (.store 1 (sl 2) (sl 57))]))
 (.ret))
 (.seq (.reg [.o (.bin 59 .eql (sl 13) (ci 5)),
 .o (.move 58 (sl 59))])
 ((.cond (sl 58) (.seq (.weak (.draw [] [(.h (some []) [72], .o (.bslice 60 5 0 [])),
 (.r false [60, 63, 72], .o (.fld 61 0 (sl 3))),
 (.r false [60, 63, 72], .o (.load1 62 (sl 61))),
 (.h (some [60]) [72], .o (.app 63 5 56 (sl 60) (sl 62))),
 (.r false [60, 63, 72], .o (.fld 64 0 (sl 3))),
 (.r false [60, 63, 72], .o (.load1 65 (sl 64))),
 (.r false [60, 63, 72], .o (.fld 66 0 (sl 3))),
 (.r false [60, 63, 72], .o (.load1 67 (sl 66))),
 (.r false [60, 63, 72], .o (.lenS 68 (sl 67))),
 (.r false [60, 63, 72], .o (.bin 69 .sub (sl 68) (ci 1))),
 (.r false [60, 63, 72], .o (.idx 70 5 (sl 65) (sl 69))),
 (.r false [60, 63, 72], .o (.loadN 71 5 (sl 70))),
 (.h (some []) [60, 63], .o (.bslice 72 5 1 [(0, (sl 71))])),
 (kH, .o (.app 73 5 56 (sl 63) (sl 72))),
 (kR, .o (.build 74 [.v (.slice none 0 0)] [(0, 1)] [(0, (sl 73))])),
 (kH, .o (.store 1 (sl 2) (sl 74)))]))
 (.ret))
 .skip)))))))))))))))))))))
 ((.seq (.weak (.reg [.o (.loadN 75 1 (sl 3)),
 .o (.store 1 (sl 2) (sl 75))]))
 (.ret))))))))))
theorem fun_spec_l20Draw_h {rin : List T} {args : List A} {Q : List T → T → Prop} (ha : args.length ≤ 76) (h : cW Try.prog 76 c_spec_l20Draw_h (retP Try.prog [.cell 2 33] rin.length Q) (St.of (enum 0 args) (enum 1000000000 rin))) :
    Fun Try.prog 223 rin args Q :=
  Fun.of (H := ⟨[(5, 0, .r false [1000000000, 21, 20]), (5, 1, .r false [1000000000, 21, 20]), (5, 2, .r false [1000000000, 21, 20]), (5, 5, .h (some [1000000000, 20]) []), (7, 0, .r false [1000000000, 31, 30]), (7, 1, .r false [1000000000, 31, 30]), (7, 2, .r false [1000000000, 31, 30]), (7, 5, .h (some [1000000000, 30]) []), (9, 0, .r false [1000000000, 41, 40]), (9, 1, .r false [1000000000, 41, 40]), (9, 2, .r false [1000000000, 41, 40]), (9, 5, .h (some [1000000000, 40]) []), (15, 0, .h (some []) [72]), (15, 3, .h (some [60]) [72]), (15, 12, .h (some []) [60, 63]), (15, 1, .r false [60, 63, 72]), (15, 2, .r false [60, 63, 72]), (15, 4, .r false [60, 63, 72]), (15, 5, .r false [60, 63, 72]), (15, 6, .r false [60, 63, 72]), (15, 7, .r false [60, 63, 72]), (15, 8, .r false [60, 63, 72]), (15, 9, .r false [60, 63, 72]), (15, 10, .r false [60, 63, 72]), (15, 11, .r false [60, 63, 72])], [13, 15, 16]⟩) Try.func223 rfl rfl rfl (by kernel_rfl) ha (by decide) h

end Go.Ab

/- Contracts: the shape of drawn trees, part 3. -/
set_option linter.unusedSimpArgs false
set_option linter.unusedVariables false
namespace Go.Ab
open Go.Proofs
section
attribute [-go_sem] load1C load1V fldC lenC idxC loadNV nilCheckW
set_option maxRecDepth 20000 in
theorem spec_l20Valid_ok (cs : List Int) (hc : bytesOK cs) (hl : cs.length ≤ 100000000000) (a : Nat × Int) (ha : seedOK a) : ∃ x : List Nd × (Nat × Int), (smallN 100 x.1 ∧ 0 < x.1.length ∧ seedOK x.2) ∧ Fun Try.prog 227 [.box [bytes cs, .i a.1, .i a.2]] [.own 1000000000] fun o r => o = [.box [bytes cs, .i x.2.1, .i x.2.2]] ∧ r = .agg [nodesO x.1] := by
  have hs1 := nextS_seed (cs := cs) hl ha 5
  by_cases q0 : (nextS cs a 5).1 = 0
  · obtain ⟨g1, g2, g3⟩ := rndF_ok (cs := cs) hl 3 [] (nextS cs a 5).2 hs1 (by simp)
    refine ⟨rndF cs 3 ([], (nextS cs a 5).2), ⟨⟨Nat.le_trans g1.1 (by decide), g1.2⟩, by simpa using g2, g3⟩, ?_⟩
    refine fun_spec_l20Valid (by simp) ?_
    simp -implicitDefEqProofs only [go_sem, evR, ints, rows, rat, rats, c_spec_l20Valid]
    refine CallW.ref (next_box cs hc hl a ha 5 (by omega)) [1000000000] [] rfl Try.call126 (by simp) ?_ (by simp) ?_ (.inl rfl) ?_
    · simp -implicitDefEqProofs only [srR, Nat.reduceEqDiff, ↓reduceIte, ints, rows, intsO, rowsO]
    · simp -implicitDefEqProofs only [agR, Nat.reduceLeDiff, Nat.reduceSub, vaR, go_sem, ints, rows, rat, rats, ratsO, rtR, intsO, rowsO]
    simp -implicitDefEqProofs only [clR, Nat.reduceLeDiff, go_sem, evR, rat]
    generalize nextS cs a 5 = z at q0 hs1 ⊢
    obtain ⟨k, b⟩ := z
    simp only [] at q0 hs1 ⊢
    refine ⟨fun h0 => ?_, fun h0 => absurd h0 (by simp [q0])⟩
    have hp := spec_l20Random_ok cs hc hl 1000 (by omega) 3 [] b hs1 ⟨by simp, by simp⟩ (by decide)
    simp only [nodesO, chunk_nil, show ((3 : Nat) : Int) = 3 from rfl] at hp
    refine CallW.ref hp [1000000000, 12] [] rfl Try.call199 (by simp) ?_ (by simp) ?_ (.inl rfl) ?_
    · simp -implicitDefEqProofs only [srR, Nat.reduceEqDiff, ↓reduceIte, ints, rows, intsO, rowsO]
    · simp -implicitDefEqProofs only [agR, Nat.reduceLeDiff, Nat.reduceSub, vaR, go_sem, ints, rows, rat, rats, ratsO, rtR, intsO, rowsO]
    simp -implicitDefEqProofs only [clR, Nat.reduceLeDiff, go_sem, evR, rat]
    rfl
  · by_cases q1 : (nextS cs a 5).1 = 1
    · have hs2 := nextS_seed (cs := cs) hl hs1 4
      have hb2 := nextS_bound (cs := cs) (a := (nextS cs a 5).2) (n := 4) (by omega)
      have hs3 := nextS_seed (cs := cs) hl hs2 5
      have hb3 := nextS_bound (cs := cs) (a := (nextS cs (nextS cs a 5).2 4).2) (n := 5) (by omega)
      obtain ⟨l', h1', h2', hp⟩ := spec_BetTree_w (nextS cs (nextS cs a 5).2 4).1 (1 + (nextS cs (nextS cs (nextS cs a 5).2 4).2 5).1) 1 (by omega) (by omega) (by omega) (by omega) (by omega)
      refine ⟨(l', (nextS cs (nextS cs (nextS cs a 5).2 4).2 5).2), ⟨h1', h2', hs3⟩, ?_⟩
      refine fun_spec_l20Valid (by simp) ?_
      simp -implicitDefEqProofs only [go_sem, evR, ints, rows, rat, rats, c_spec_l20Valid]
      refine CallW.ref (next_box cs hc hl a ha 5 (by omega)) [1000000000] [] rfl Try.call126 (by simp) ?_ (by simp) ?_ (.inl rfl) ?_
      · simp -implicitDefEqProofs only [srR, Nat.reduceEqDiff, ↓reduceIte, ints, rows, intsO, rowsO]
      · simp -implicitDefEqProofs only [agR, Nat.reduceLeDiff, Nat.reduceSub, vaR, go_sem, ints, rows, rat, rats, ratsO, rtR, intsO, rowsO]
      simp -implicitDefEqProofs only [clR, Nat.reduceLeDiff, go_sem, evR, rat]
      generalize nextS cs a 5 = z at *
      obtain ⟨k, b⟩ := z
      simp only [] at q0 q1 hs1 hs2 hb2 hs3 hb3 hp ⊢
      refine ⟨fun h0 => absurd h0 (by simp [q0]), fun h0 => ⟨fun h1 => ?_, fun h1 => absurd h1 (by simp [q1])⟩⟩
      refine CallW.ref (next_box cs hc hl b hs1 4 (by omega)) [1000000000] [] rfl Try.call126 (by simp) ?_ (by simp) ?_ (.inl rfl) ?_
      · simp -implicitDefEqProofs only [srR, Nat.reduceEqDiff, ↓reduceIte, ints, rows, intsO, rowsO]
      · simp -implicitDefEqProofs only [agR, Nat.reduceLeDiff, Nat.reduceSub, vaR, go_sem, ints, rows, rat, rats, ratsO, rtR, intsO, rowsO]
      simp -implicitDefEqProofs only [clR, Nat.reduceLeDiff, go_sem, evR, rat]
      generalize nextS cs b 4 = z at *
      obtain ⟨p, b2⟩ := z
      simp only [] at hs2 hb2 hs3 hb3 hp ⊢
      refine CallW.ref (next_box cs hc hl b2 hs2 5 (by omega)) [1000000000] [] rfl Try.call126 (by simp) ?_ (by simp) ?_ (.inl rfl) ?_
      · simp -implicitDefEqProofs only [srR, Nat.reduceEqDiff, ↓reduceIte, ints, rows, intsO, rowsO]
      · simp -implicitDefEqProofs only [agR, Nat.reduceLeDiff, Nat.reduceSub, vaR, go_sem, ints, rows, rat, rats, ratsO, rtR, intsO, rowsO]
      simp -implicitDefEqProofs only [clR, Nat.reduceLeDiff, go_sem, evR, rat]
      generalize nextS cs b2 5 = z at *
      obtain ⟨q, b3⟩ := z
      simp only [] at hs3 hb3 hp ⊢
      rw [wrap64 (n := 1 + q) (by omega) (by omega)]
      simp only [show ((1 : Nat) : Int) = 1 from rfl, nodesO] at hp
      refine CallW.res hp [] rfl Try.call184 ?_ (.inl rfl) ?_
      · simp -implicitDefEqProofs only [agR, Nat.reduceLeDiff, Nat.reduceSub, vaR, go_sem, ints, rows, rat, rats, ratsO, rtR, intsO, rowsO]
      simp -implicitDefEqProofs only [clR, Nat.reduceLeDiff, go_sem, evR, rat, opR, Nat.reduceBEq]
      rfl
    · have hs2 := nextS_seed (cs := cs) hl hs1 3
      have hb2 := nextS_bound (cs := cs) (a := (nextS cs a 5).2) (n := 3) (by omega)
      have hs3 := nextS_seed (cs := cs) hl hs2 4
      have hb3 := nextS_bound (cs := cs) (a := (nextS cs (nextS cs a 5).2 3).2) (n := 4) (by omega)
      obtain ⟨l', h1', h2', hp⟩ := spec_BetTree_w (1 + (nextS cs (nextS cs a 5).2 3).1) (1 + (nextS cs (nextS cs (nextS cs a 5).2 3).2 4).1) 0 (by omega) (by omega) (by omega) (by omega) (by omega)
      refine ⟨(l', (nextS cs (nextS cs (nextS cs a 5).2 3).2 4).2), ⟨h1', h2', hs3⟩, ?_⟩
      refine fun_spec_l20Valid (by simp) ?_
      simp -implicitDefEqProofs only [go_sem, evR, ints, rows, rat, rats, c_spec_l20Valid]
      refine CallW.ref (next_box cs hc hl a ha 5 (by omega)) [1000000000] [] rfl Try.call126 (by simp) ?_ (by simp) ?_ (.inl rfl) ?_
      · simp -implicitDefEqProofs only [srR, Nat.reduceEqDiff, ↓reduceIte, ints, rows, intsO, rowsO]
      · simp -implicitDefEqProofs only [agR, Nat.reduceLeDiff, Nat.reduceSub, vaR, go_sem, ints, rows, rat, rats, ratsO, rtR, intsO, rowsO]
      simp -implicitDefEqProofs only [clR, Nat.reduceLeDiff, go_sem, evR, rat]
      generalize nextS cs a 5 = z at *
      obtain ⟨k, b⟩ := z
      simp only [] at q0 q1 hs1 hs2 hb2 hs3 hb3 hp ⊢
      refine ⟨fun h0 => absurd h0 (by simp [q0]), fun h0 => ⟨fun h1 => absurd h1 (by simp [q1]), fun h1 => ?_⟩⟩
      refine CallW.ref (next_box cs hc hl b hs1 3 (by omega)) [1000000000] [] rfl Try.call126 (by simp) ?_ (by simp) ?_ (.inl rfl) ?_
      · simp -implicitDefEqProofs only [srR, Nat.reduceEqDiff, ↓reduceIte, ints, rows, intsO, rowsO]
      · simp -implicitDefEqProofs only [agR, Nat.reduceLeDiff, Nat.reduceSub, vaR, go_sem, ints, rows, rat, rats, ratsO, rtR, intsO, rowsO]
      simp -implicitDefEqProofs only [clR, Nat.reduceLeDiff, go_sem, evR, rat]
      generalize nextS cs b 3 = z at *
      obtain ⟨p, b2⟩ := z
      simp only [] at hs2 hb2 hs3 hb3 hp ⊢
      refine CallW.ref (next_box cs hc hl b2 hs2 4 (by omega)) [1000000000] [] rfl Try.call126 (by simp) ?_ (by simp) ?_ (.inl rfl) ?_
      · simp -implicitDefEqProofs only [srR, Nat.reduceEqDiff, ↓reduceIte, ints, rows, intsO, rowsO]
      · simp -implicitDefEqProofs only [agR, Nat.reduceLeDiff, Nat.reduceSub, vaR, go_sem, ints, rows, rat, rats, ratsO, rtR, intsO, rowsO]
      simp -implicitDefEqProofs only [clR, Nat.reduceLeDiff, go_sem, evR, rat]
      generalize nextS cs b2 4 = z at *
      obtain ⟨q, b3⟩ := z
      simp only [] at hs3 hb3 hp ⊢
      rw [wrap64 (n := 1 + p) (by omega) (by omega), wrap64 (n := 1 + q) (by omega) (by omega)]
      simp only [show ((0 : Nat) : Int) = 0 from rfl, nodesO] at hp
      refine CallW.res hp [] rfl Try.call184 ?_ (.inl rfl) ?_
      · simp -implicitDefEqProofs only [agR, Nat.reduceLeDiff, Nat.reduceSub, vaR, go_sem, ints, rows, rat, rats, ratsO, rtR, intsO, rowsO]
      simp -implicitDefEqProofs only [clR, Nat.reduceLeDiff, go_sem, evR, rat, opR, Nat.reduceBEq]
      rfl
theorem nodesA_toSh (l : List Nd) : (T.arr 5 (chunk nodeC l)).toSh = nodes l := by
  simp only [nodes, T.toSh, T.toShL_eq_map, chunk, List.map_flatMap]
  rfl
theorem toShL_chunk (l : List Nd) : T.toShL (chunk nodeCO l) = chunk nodeC l := by
  have h := nodesO_toSh l
  rw [nodesO, nodes, T.toSh] at h
  injection h
theorem toShL_chunkC (l : List Nd) : T.toShL (chunk nodeC l) = chunk nodeC l := by
  have h := nodesA_toSh l
  rw [nodes, T.toSh] at h
  injection h
theorem allC_cell (l : List Nd) : (chunk nodeC l).all T.cell = true := by
  rw [List.all_eq_true]
  intro t ht
  simp only [chunk, List.mem_flatMap] at ht
  obtain ⟨x, _, hx⟩ := ht
  simp only [nodeC, List.mem_cons, List.not_mem_nil, or_false] at hx
  rcases hx with rfl | rfl | rfl | rfl | rfl <;> rfl
theorem chunk_p : ∀ (l : List Nd) (i : Nat) (x : Nd) (v : Int), l[i]? = some x → (chunk nodeCO l).set (i * 5) (.i v) = chunk nodeCO (l.set i ⟨v, x.a, x.b, x.f, x.ch⟩)
  | [], i, x, v, h => by simp at h
  | a :: l, 0, x, v, h => by
    simp at h; subst h
    rw [chunk_cons, List.set_cons_zero, chunk_cons]; rfl
  | a :: l, i + 1, x, v, h => by
    rw [chunk_cons, List.set_append_right _ _ (by rw [nodeCO_len]; omega), nodeCO_len, show (i + 1) * 5 - 5 = i * 5 by omega, chunk_p l i x v (by simpa using h), List.set_cons_succ, chunk_cons]
theorem chunk_a : ∀ (l : List Nd) (i : Nat) (x : Nd) (v : Int), l[i]? = some x → (chunk nodeCO l).set (i * 5 + 1) (.i v) = chunk nodeCO (l.set i ⟨x.p, v, x.b, x.f, x.ch⟩)
  | [], i, x, v, h => by simp at h
  | a :: l, 0, x, v, h => by
    simp at h; subst h
    rw [chunk_cons, List.set_cons_zero, chunk_cons]; rfl
  | a :: l, i + 1, x, v, h => by
    rw [chunk_cons, List.set_append_right _ _ (by rw [nodeCO_len]; omega), nodeCO_len, show (i + 1) * 5 + 1 - 5 = i * 5 + 1 by omega, chunk_a l i x v (by simpa using h), List.set_cons_succ, chunk_cons]
theorem chunk_f : ∀ (l : List Nd) (i : Nat) (x : Nd) (v : Int), l[i]? = some x → (chunk nodeCO l).set (i * 5 + 3) (.i v) = chunk nodeCO (l.set i ⟨x.p, x.a, x.b, v, x.ch⟩)
  | [], i, x, v, h => by simp at h
  | a :: l, 0, x, v, h => by
    simp at h; subst h
    rw [chunk_cons, List.set_cons_zero, chunk_cons]; rfl
  | a :: l, i + 1, x, v, h => by
    rw [chunk_cons, List.set_append_right _ _ (by rw [nodeCO_len]; omega), nodeCO_len, show (i + 1) * 5 + 3 - 5 = i * 5 + 3 by omega, chunk_f l i x v (by simpa using h), List.set_cons_succ, chunk_cons]
theorem smallN_upd {b : Nat} {l : List Nd} (h : smallN b l) {i : Nat} {x : Nd} (hx : l[i]? = some x) (p a c f : Int) : smallN b (l.set i ⟨p, a, c, f, x.ch⟩) := smallN_set h i _ (h.2 x (List.mem_of_getElem? hx))
def drawnT (b : Bool) (l : List Nd) : T := .agg [if b then nodes l else .arr 5 (chunk nodeC l)]
def tdF (cs : List Int) (l : List Nd) (k : Nat) (q : Int) (c : Nat × Int) : (List Nd × Bool) × (Nat × Int) :=
  match l[k]? with
  | none => ((l, true), c)
  | some z =>
    if q = 0 then ((l.set k ⟨(pickS cs c [-1, 0, 1, 2, 3]).1, z.a, z.b, z.f, z.ch⟩, true), (pickS cs c [-1, 0, 1, 2, 3]).2)
    else if q = 1 then ((l.set k ⟨z.p, (pickS cs c [-1, 0, 100, 101]).1, z.b, z.f, z.ch⟩, true), (pickS cs c [-1, 0, 100, 101]).2)
    else if q = 2 then ((l.set k ⟨z.p, z.a, z.b, (pickS cs c [-2, -1, 0, 2]).1, z.ch⟩, true), (pickS cs c [-2, -1, 0, 2]).2)
    else if q = 3 then ((setCh l 0 [1, 1], true), c)
    else if q = 4 then ((l.take k, true), c)
    else if q = 5 then ((l ++ l[l.length - 1]?.toList, false), c)
    else ((l, true), c)
theorem tdF_ok {cs : List Int} (hl : cs.length ≤ 100000000000) {l : List Nd} (h : smallN 100 l) (k : Nat) (q : Int) {c : Nat × Int} (hc : seedOK c) : smallN 101 (tdF cs l k q c).1.1 ∧ seedOK (tdF cs l k q c).2 := by
  have hs : smallN 101 l := ⟨by have := h.1; omega, h.2⟩
  unfold tdF
  cases hz : l[k]? with
  | none => exact ⟨hs, hc⟩
  | some z =>
    (try simp only [])
    split
    · exact ⟨smallN_upd hs hz _ _ _ _, pickS_seed hl hc _⟩
    split
    · exact ⟨smallN_upd hs hz _ _ _ _, pickS_seed hl hc _⟩
    split
    · exact ⟨smallN_upd hs hz _ _ _ _, pickS_seed hl hc _⟩
    split
    · exact ⟨(setCh_small hs 0 (by simp)).1, hc⟩
    split
    · exact ⟨⟨by show (l.take k).length ≤ 101; rw [List.length_take]; have := hs.1; omega, fun x hx => hs.2 x (List.mem_of_mem_take hx)⟩, hc⟩
    split
    · refine ⟨⟨?_, fun x hx => ?_⟩, hc⟩
      · have := h.1
        show (l ++ l[l.length - 1]?.toList).length ≤ 101
        rw [List.length_append]
        have : l[l.length - 1]?.toList.length ≤ 1 := by cases l[l.length - 1]? <;> simp
        omega
      · rcases List.mem_append.1 hx with hx | hx
        · exact hs.2 x hx
        · cases hg : l[l.length - 1]? with
          | none => rw [hg] at hx; simp at hx
          | some y => rw [hg] at hx; simp at hx; rw [hx]; exact hs.2 _ (List.mem_of_getElem? hg)
    · exact ⟨hs, hc⟩
set_option maxRecDepth 20000 in
theorem spec_l20Draw_ok (cs : List Int) (hc : bytesOK cs) (hl : cs.length ≤ 100000000000) (a : Nat × Int) (ha : seedOK a) : ∃ x : (List Nd × Bool) × (Nat × Int), (smallN 101 x.1.1 ∧ seedOK x.2) ∧ Fun Try.prog 223 [.box [bytes cs, .i a.1, .i a.2]] [.own 1000000000] fun o r => o = [.box [bytes cs, .i x.2.1, .i x.2.2]] ∧ r = drawnT x.1.2 x.1.1 := by
  obtain ⟨⟨l, e⟩, ⟨hx1, hx2, hx3⟩, hV⟩ := spec_l20Valid_ok cs hc hl a ha
  (try simp only [] at hx1 hx2 hx3 hV)
  refine ⟨tdF cs l (nextS cs e l.length).1.toNat (nextS cs (nextS cs e l.length).2 30).1 (nextS cs (nextS cs e l.length).2 30).2, tdF_ok hl hx1 _ _ (nextS_seed hl (nextS_seed hl hx3 _) _), ?_⟩
  refine fun_spec_l20Draw_h (by simp) ?_
  simp -implicitDefEqProofs only [go_sem, evR, ints, rows, rat, rats, c_spec_l20Draw_h]
  simp only [nodesO] at hV
  refine CallW.ref hV [1000000000] [] rfl Try.call227 (by simp) ?_ (by simp) ?_ (.inl rfl) ?_
  · simp -implicitDefEqProofs only [srR, Nat.reduceEqDiff, ↓reduceIte, ints, rows, intsO, rowsO]
  · simp -implicitDefEqProofs only [agR, Nat.reduceLeDiff, Nat.reduceSub, vaR, go_sem, ints, rows, rat, rats, ratsO, rtR, intsO, rowsO]
  simp -implicitDefEqProofs only [clR, Nat.reduceLeDiff, go_sem, evR, rat]
  have hl1 := hx1.1
  have hnl : (chunk nodeCO l).length / 5 = l.length := chunk_div nodeCO_len (by decide) l
  have hnl5 : (chunk nodeCO l).length = l.length * 5 := chunk_length nodeCO_len l
  rw [hnl]
  refine CallW.ref (next_box cs hc hl e hx3 l.length (by omega)) [1000000000] [] rfl Try.call126 (by simp) ?_ (by simp) ?_ (.inl rfl) ?_
  · simp -implicitDefEqProofs only [srR, Nat.reduceEqDiff, ↓reduceIte, ints, rows, intsO, rowsO]
  · simp -implicitDefEqProofs only [agR, Nat.reduceLeDiff, Nat.reduceSub, vaR, go_sem, ints, rows, rat, rats, ratsO, rtR, intsO, rowsO]
  simp -implicitDefEqProofs only [clR, Nat.reduceLeDiff, go_sem, evR, rat]
  have hs1 := nextS_seed (cs := cs) hl hx3 l.length
  have hb1 := nextS_bound (cs := cs) (a := e) (n := l.length) (by omega)
  generalize nextS cs e l.length = z at hs1 hb1 ⊢
  obtain ⟨k, b⟩ := z
  simp only [] at hs1 hb1 ⊢
  obtain ⟨k, rfl⟩ : ∃ n : Nat, k = n := ⟨k.toNat, by omega⟩
  rw [Int.toNat_natCast]
  refine CallW.ref (next_box cs hc hl b hs1 30 (by omega)) [1000000000] [] rfl Try.call126 (by simp) ?_ (by simp) ?_ (.inl rfl) ?_
  · simp -implicitDefEqProofs only [srR, Nat.reduceEqDiff, ↓reduceIte, ints, rows, intsO, rowsO]
  · simp -implicitDefEqProofs only [agR, Nat.reduceLeDiff, Nat.reduceSub, vaR, go_sem, ints, rows, rat, rats, ratsO, rtR, intsO, rowsO]
  simp -implicitDefEqProofs only [clR, Nat.reduceLeDiff, go_sem, evR, rat, List.lookup_cons, beq_self_eq_true]
  have hs2 := nextS_seed (cs := cs) hl hs1 30
  generalize nextS cs b 30 = z at hs2 ⊢
  obtain ⟨q, c⟩ := z
  simp only [] at hs2 ⊢
  obtain ⟨z0, hz0⟩ : ∃ z, l[k]? = some z := ⟨_, List.getElem?_eq_getElem (by omega)⟩
  have hsm : smallN 101 l := ⟨by omega, hx1.2⟩
  refine ⟨fun q0 => ?_, fun q0 => ⟨fun q1 => ?_, fun q1 => ⟨fun q2 => ?_, fun q2 => ⟨fun q3 => ?_, fun q3 => ⟨fun q4 => ?_, fun q4 => ⟨fun q5 => ?_, fun q5 => ?_⟩⟩⟩⟩⟩⟩
  · have hp := pick_own cs hc hl c hs2 [-1, 0, 1, 2, 3] (by simp) (by simp)
    simp only [intsO, List.map_cons, List.map_nil] at hp
    refine CallH.ref hp [1000000000, 20] [] rfl Try.call147 (by simp) ?_ (by simp) (fun e R' hR => ?_) (.inl rfl) ?_
    · simp -implicitDefEqProofs only [srR, Nat.reduceEqDiff, ↓reduceIte, ints, rows, intsO, rowsO]
    · simp -implicitDefEqProofs only [agR, Nat.reduceLeDiff, Nat.reduceSub, vaR, go_sem, ints, rows, rat, rats, ratsO, rtR, intsO, rowsO]
    simp -implicitDefEqProofs only [clR, Nat.reduceLeDiff, go_sem, evR, rat]
    have hs3 := pickS_seed (cs := cs) hl hs2 [-1, 0, 1, 2, 3]
    generalize hpk : pickS cs c [-1, 0, 1, 2, 3] = z at hs3 ⊢
    obtain ⟨v, d⟩ := z
    simp only [] at hs3 ⊢
    refine ⟨?_, ((frameOK.refl _ _ _).upd _ (.inl (by simp))).upd _ (.inl (by simp))⟩
    simp -implicitDefEqProofs only [go_sem, evR, ints, rows, rat, rats, hnl5]
    refine ⟨by omega, by omega, by omega, ?_⟩
    rw [chunk_p l k z0 v hz0]
    refine ⟨_, Weak.trans (Weak.close1 3 0 9 rfl rfl (by decide) rfl) (Weak.trans (Weak.share 3 rfl) (Weak.of [(0, .own 1000000000), (2, .own 2), (3, .t (.pin [nodes (l.set k ⟨v, z0.a, z0.b, z0.f, z0.ch⟩)] 0)), (4, .t (.i k))] [(1000000000, .box [bytes cs, .i d.1, .i d.2]), (2, .box [.v (.slice none 0 0)])] [some 1000000000, some 2] (by simp) (by simp) ?_ ?_)), ?_⟩
    · simp -implicitDefEqProofs only [ints, rows, Nat.reduceBEq, wkR, Nat.reduceEqDiff, ↓reduceIte, wrR, shareA, T.toSh, T.toShL, toShL_chunk, nodes, List.set_cons_zero]
    · exact ⟨⟨_, rfl, .refl _⟩, rfl, ⟨_, rfl, .refl _⟩, rfl, trivial⟩
    simp -implicitDefEqProofs only [go_sem, evR, ints, rows, rat, rats, nodes]
    have hT : tdF cs l k q c = (((l.set k ⟨v, z0.a, z0.b, z0.f, z0.ch⟩), true), d) := by simp only [tdF, hz0, hpk]; exact if_pos (by simpa using q0)
    rw [hT]; exact ⟨rfl, rfl⟩
  · have hp := pick_own cs hc hl c hs2 [-1, 0, 100, 101] (by simp) (by simp)
    simp only [intsO, List.map_cons, List.map_nil] at hp
    refine CallH.ref hp [1000000000, 30] [] rfl Try.call147 (by simp) ?_ (by simp) (fun e R' hR => ?_) (.inl rfl) ?_
    · simp -implicitDefEqProofs only [srR, Nat.reduceEqDiff, ↓reduceIte, ints, rows, intsO, rowsO]
    · simp -implicitDefEqProofs only [agR, Nat.reduceLeDiff, Nat.reduceSub, vaR, go_sem, ints, rows, rat, rats, ratsO, rtR, intsO, rowsO]
    simp -implicitDefEqProofs only [clR, Nat.reduceLeDiff, go_sem, evR, rat]
    have hs3 := pickS_seed (cs := cs) hl hs2 [-1, 0, 100, 101]
    generalize hpk : pickS cs c [-1, 0, 100, 101] = z at hs3 ⊢
    obtain ⟨v, d⟩ := z
    simp only [] at hs3 ⊢
    refine ⟨?_, ((frameOK.refl _ _ _).upd _ (.inl (by simp))).upd _ (.inl (by simp))⟩
    simp -implicitDefEqProofs only [go_sem, evR, ints, rows, rat, rats, hnl5]
    refine ⟨by omega, by omega, by omega, ?_⟩
    rw [chunk_a l k z0 v hz0]
    refine ⟨_, Weak.trans (Weak.close1 3 0 9 rfl rfl (by decide) rfl) (Weak.trans (Weak.share 3 rfl) (Weak.of [(0, .own 1000000000), (2, .own 2), (3, .t (.pin [nodes (l.set k ⟨z0.p, v, z0.b, z0.f, z0.ch⟩)] 0)), (4, .t (.i k))] [(1000000000, .box [bytes cs, .i d.1, .i d.2]), (2, .box [.v (.slice none 0 0)])] [some 1000000000, some 2] (by simp) (by simp) ?_ ?_)), ?_⟩
    · simp -implicitDefEqProofs only [ints, rows, Nat.reduceBEq, wkR, Nat.reduceEqDiff, ↓reduceIte, wrR, shareA, T.toSh, T.toShL, toShL_chunk, nodes, List.set_cons_zero]
    · exact ⟨⟨_, rfl, .refl _⟩, rfl, ⟨_, rfl, .refl _⟩, rfl, trivial⟩
    simp -implicitDefEqProofs only [go_sem, evR, ints, rows, rat, rats, nodes]
    have hT : tdF cs l k q c = (((l.set k ⟨z0.p, v, z0.b, z0.f, z0.ch⟩), true), d) := by simp only [tdF, hz0, hpk]; rw [if_neg (by simpa using q0)]; exact if_pos (by simpa using q1)
    rw [hT]; exact ⟨rfl, rfl⟩
  · have hp := pick_own cs hc hl c hs2 [-2, -1, 0, 2] (by simp) (by simp)
    simp only [intsO, List.map_cons, List.map_nil] at hp
    refine CallH.ref hp [1000000000, 40] [] rfl Try.call147 (by simp) ?_ (by simp) (fun e R' hR => ?_) (.inl rfl) ?_
    · simp -implicitDefEqProofs only [srR, Nat.reduceEqDiff, ↓reduceIte, ints, rows, intsO, rowsO]
    · simp -implicitDefEqProofs only [agR, Nat.reduceLeDiff, Nat.reduceSub, vaR, go_sem, ints, rows, rat, rats, ratsO, rtR, intsO, rowsO]
    simp -implicitDefEqProofs only [clR, Nat.reduceLeDiff, go_sem, evR, rat]
    have hs3 := pickS_seed (cs := cs) hl hs2 [-2, -1, 0, 2]
    generalize hpk : pickS cs c [-2, -1, 0, 2] = z at hs3 ⊢
    obtain ⟨v, d⟩ := z
    simp only [] at hs3 ⊢
    refine ⟨?_, ((frameOK.refl _ _ _).upd _ (.inl (by simp))).upd _ (.inl (by simp))⟩
    simp -implicitDefEqProofs only [go_sem, evR, ints, rows, rat, rats, hnl5]
    refine ⟨by omega, by omega, by omega, ?_⟩
    rw [chunk_f l k z0 v hz0]
    refine ⟨_, Weak.trans (Weak.close1 3 0 9 rfl rfl (by decide) rfl) (Weak.trans (Weak.share 3 rfl) (Weak.of [(0, .own 1000000000), (2, .own 2), (3, .t (.pin [nodes (l.set k ⟨z0.p, z0.a, z0.b, v, z0.ch⟩)] 0)), (4, .t (.i k))] [(1000000000, .box [bytes cs, .i d.1, .i d.2]), (2, .box [.v (.slice none 0 0)])] [some 1000000000, some 2] (by simp) (by simp) ?_ ?_)), ?_⟩
    · simp -implicitDefEqProofs only [ints, rows, Nat.reduceBEq, wkR, Nat.reduceEqDiff, ↓reduceIte, wrR, shareA, T.toSh, T.toShL, toShL_chunk, nodes, List.set_cons_zero]
    · exact ⟨⟨_, rfl, .refl _⟩, rfl, ⟨_, rfl, .refl _⟩, rfl, trivial⟩
    simp -implicitDefEqProofs only [go_sem, evR, ints, rows, rat, rats, nodes]
    have hT : tdF cs l k q c = (((l.set k ⟨z0.p, z0.a, z0.b, v, z0.ch⟩), true), d) := by simp only [tdF, hz0, hpk]; rw [if_neg (by simpa using q0), if_neg (by simpa using q1)]; exact if_pos (by simpa using q2)
    rw [hT]; exact ⟨rfl, rfl⟩
  · obtain ⟨z1, hz1⟩ : ∃ z, l[0]? = some z := ⟨_, List.getElem?_eq_getElem (by omega)⟩
    have hch := chunk_ch l 0 z1 [1, 1] hz1
    simp only [Nat.zero_mul, Nat.zero_add, intsO, List.map_cons, List.map_nil] at hch
    refine ⟨by omega, by omega, ?_⟩
    simp -implicitDefEqProofs only [go_sem, evR, ints, rows, rat, rats, hch]
    refine ⟨_, Weak.trans (Weak.close1 3 0 9 rfl rfl (by decide) rfl) (Weak.trans (Weak.share 3 rfl) (Weak.of [(0, .own 1000000000), (2, .own 2), (3, .t (.pin [nodes (l.set 0 ⟨z1.p, z1.a, z1.b, z1.f, [1, 1]⟩)] 0)), (4, .t (.i k))] [(1000000000, .box [bytes cs, .i c.1, .i c.2]), (2, .box [.v (.slice none 0 0)])] [some 1000000000, some 2] (by simp) (by simp) ?_ ?_)), ?_⟩
    · simp -implicitDefEqProofs only [ints, rows, Nat.reduceBEq, wkR, Nat.reduceEqDiff, ↓reduceIte, wrR, shareA, T.toSh, T.toShL, toShL_chunk, nodes, List.set_cons_zero]
    · exact ⟨⟨_, rfl, .refl _⟩, rfl, ⟨_, rfl, .refl _⟩, rfl, trivial⟩
    simp -implicitDefEqProofs only [go_sem, evR, ints, rows, rat, rats, nodes]
    have hT : tdF cs l k q c = ((l.set 0 ⟨z1.p, z1.a, z1.b, z1.f, [1, 1]⟩, true), c) := by simp only [tdF, hz0]; rw [if_neg (by simpa using q0), if_neg (by simpa using q1), if_neg (by simpa using q2), if_pos (by simpa using q3)]; simp only [setCh, hz1]
    rw [hT]; exact ⟨rfl, rfl⟩
  · refine ⟨_, Weak.trans (Weak.close1 3 0 9 rfl rfl (by decide) rfl) (Weak.trans (Weak.share 3 rfl) (Weak.of [(0, .own 1000000000), (2, .own 2), (3, .t (.pin [nodes l] 0)), (4, .t (.i k))] [(1000000000, .box [bytes cs, .i c.1, .i c.2]), (2, .box [.v (.slice none 0 0)])] [some 1000000000, some 2] (by simp) (by simp) ?_ ?_)), ?_⟩
    · simp -implicitDefEqProofs only [ints, rows, Nat.reduceBEq, wkR, Nat.reduceEqDiff, ↓reduceIte, wrR, shareA, T.toSh, T.toShL, toShL_chunk, nodes, List.set_cons_zero]
    · exact ⟨⟨_, rfl, .refl _⟩, rfl, ⟨_, rfl, .refl _⟩, rfl, trivial⟩
    simp -implicitDefEqProofs only [go_sem, evR, ints, rows, rat, rats, nodes]
    have hT : tdF cs l k q c = ((l.take k, true), c) := by simp only [tdF, hz0]; rw [if_neg (by simpa using q0), if_neg (by simpa using q1), if_neg (by simpa using q2), if_neg (by simpa using q3)]; exact if_pos (by simpa using q4)
    rw [hT]
    refine ⟨by omega, by rw [nd_len]; omega, rfl, ?_⟩
    rw [drawnT, Nat.sub_zero, chunk_take nodeC_len]; rfl
  · refine ⟨_, Weak.trans (Weak.close1 3 0 9 rfl rfl (by decide) rfl) (Weak.trans (Weak.share 3 rfl) (Weak.of [(0, .own 1000000000), (2, .own 2), (3, .t (.pin [nodes l] 0)), (4, .t (.i k))] [(1000000000, .box [bytes cs, .i c.1, .i c.2]), (2, .box [.v (.slice none 0 0)])] [some 1000000000, some 2] (by simp) (by simp) ?_ ?_)), ?_⟩
    · simp -implicitDefEqProofs only [ints, rows, Nat.reduceBEq, wkR, Nat.reduceEqDiff, ↓reduceIte, wrR, shareA, T.toSh, T.toShL, toShL_chunk, nodes, List.set_cons_zero]
    · exact ⟨⟨_, rfl, .refl _⟩, rfl, ⟨_, rfl, .refl _⟩, rfl, trivial⟩
    obtain ⟨z1, hz1⟩ : ∃ z, l[l.length - 1]? = some z := ⟨_, List.getElem?_eq_getElem (by omega)⟩
    have hw : IntKind.i64.wrap ((l.length : Int) - 1) = ((l.length - 1 : Nat) : Int) := by rw [wrap64 (by omega) (by omega)]; omega
    simp -implicitDefEqProofs only [go_sem, evR, ints, rows, rat, rats, nodes, nd_len, hw, nd_at hz1, allC_cell, show l.length * 5 / 5 = l.length by omega]
    refine ⟨⟨by omega, ⟨by omega, by omega, by omega, rfl, ?_, (frameOK.refl _ _ _).upd _ (.inr rfl)⟩, ((frameOK.refl _ _ _).upd _ (.inl (by simp))).upd _ (.inr rfl)⟩, (frameOK.refl _ _ _).upd _ (.inr rfl)⟩
    generalize hR : mergeR [60, 63] _ _ = R
    have h63 : R 63 = .live (.arr 5 (chunk nodeC l)) [] := by rw [← hR]; rfl
    have h73 : R 73 = .free := by rw [← hR]; rfl
    rw [h63, h73]
    have hT : tdF cs l k q c = ((l ++ [z1], false), c) := by simp only [tdF, hz0]; rw [if_neg (by simpa using q0), if_neg (by simpa using q1), if_neg (by simpa using q2), if_neg (by simpa using q3), if_neg (by simpa using q4), if_pos (by simpa using q5), hz1]; rfl
    rw [hT]
    refine ⟨rfl, by rw [nd_len]; omega, rfl, rfl, ?_⟩
    simp only [drawnT, chunk_append]; rfl
  · refine ⟨_, Weak.trans (Weak.close1 3 0 9 rfl rfl (by decide) rfl) (Weak.trans (Weak.share 3 rfl) (Weak.of [(0, .own 1000000000), (2, .own 2), (3, .t (.pin [nodes l] 0)), (4, .t (.i k))] [(1000000000, .box [bytes cs, .i c.1, .i c.2]), (2, .box [.v (.slice none 0 0)])] [some 1000000000, some 2] (by simp) (by simp) ?_ ?_)), ?_⟩
    · simp -implicitDefEqProofs only [ints, rows, Nat.reduceBEq, wkR, Nat.reduceEqDiff, ↓reduceIte, wrR, shareA, T.toSh, T.toShL, toShL_chunk, nodes, List.set_cons_zero]
    · exact ⟨⟨_, rfl, .refl _⟩, rfl, ⟨_, rfl, .refl _⟩, rfl, trivial⟩
    simp -implicitDefEqProofs only [go_sem, evR, ints, rows, rat, rats, nodes]
    have hT : tdF cs l k q c = ((l, true), c) := by simp only [tdF, hz0]; rw [if_neg (by simpa using q0), if_neg (by simpa using q1), if_neg (by simpa using q2), if_neg (by simpa using q3), if_neg (by simpa using q4), if_neg (by simpa using q5)]
    rw [hT]; exact ⟨rfl, rfl⟩
end
end Go.Ab
