/- Contracts: the nodes of a player; information sets. -/
import Derived.Test.YtkmmkgpnlmdcfaaQ4
set_option linter.unusedSimpArgs false
set_option linter.unusedVariables false
namespace Go.Ab
open Go.Proofs

theorem idxs_at {l : List Nd} {i : Nat} {x : Nd} (h : l[i]? = some x) (pl : Int) : idxs l pl (i + 1) = if x.p = pl then idxs l pl i ++ [(i : Int)] else idxs l pl i := by
  rw [idxs_succ, List.getD_eq_getElem?_getD, h]; rfl
theorem idxs_length (l : List Nd) (pl : Int) (n : Nat) : (idxs l pl n).length ≤ n := by
  unfold idxs
  rw [List.length_map]
  have := List.length_filter_le (fun i => decide ((l.getD i nd0).p = pl)) (List.range n)
  simpa using this
section
attribute [-go_sem] load1C
set_option maxRecDepth 20000 in
theorem spec_l20Of_ok (l : List Nd) (pl : Int) (hl : l.length ≤ 1000000000000) : Fun Try.prog 220 [] [.t (treeT l), .t (.i pl)] fun o r => o = [] ∧ r = intsO (idxs l pl l.length) := by
  refine fun_spec_l20Of (by simp) ?_
  simp -implicitDefEqProofs only [go_sem, evR, ints, rows, rat, rats, c_spec_l20Of, treeT, nodes]
  refine SemC.loopR (σ := Nat) (fun i => St.of [(1, .t (.i pl)), (2, .own 2), (5, .own 77), (6, .t (.i i))] [(2, .box [nodes l]), (77, .arr 1 ((idxs l pl i).map T.i))]) (fun i => i ≤ l.length) (fun i => l.length - i) 0 (Weak.of _ _ [some 2, some 7] (by simp) (by simp) ?_ ?_) (by omega) fun i hi R hn hr he => ?_
  · simp -implicitDefEqProofs only [ints, rows, Nat.reduceBEq, wkR, Nat.reduceEqDiff, ↓reduceIte, wrR, nodes]
  · exact ⟨⟨_, rfl, .refl _⟩, rfl, ⟨_, rfl, .refl _⟩, rfl, trivial⟩
  · rcases Nat.lt_or_ge i l.length with h9 | h9
    · obtain ⟨x, hx⟩ : ∃ x, l[i]? = some x := ⟨_, List.getElem?_eq_getElem h9⟩
      have hil := idxs_length l pl i
      simp -implicitDefEqProofs only [go_sem, evR, ints, rows, rat, rats, nodes, nd_get0 hx, decide_eq_true (show (i : Int) < (l.length : Int) by omega)]
      refine ⟨by omega, by rw [nd_len]; omega, by rw [nd_len]; omega, fun h1 => ⟨by omega, ?_⟩, fun h1 => ?_⟩
      · have h1 : x.p = pl := by simpa using h1
        refine hn _ (i + 1) (Weak.of _ _ [some 2, some 26] (by simp) (by simp) ?_ ?_) (by omega) (by omega)
        · simp -implicitDefEqProofs only [ints, rows, Nat.reduceBEq, wkR, Nat.reduceEqDiff, ↓reduceIte, wrR, nodes, next64 h9 hl]
        · refine ⟨⟨_, rfl, .refl _⟩, rfl, ⟨_, rfl, ?_⟩, rfl, trivial⟩
          rw [idxs_at hx, if_pos h1, List.map_append]; exact .refl _
      · have h1 : ¬ x.p = pl := by simpa using h1
        refine hn _ (i + 1) (Weak.of _ _ [some 2, some 77] (by simp) (by simp) ?_ ?_) (by omega) (by omega)
        · simp -implicitDefEqProofs only [ints, rows, Nat.reduceBEq, wkR, Nat.reduceEqDiff, ↓reduceIte, wrR, nodes, next64 h9 hl]
        · refine ⟨⟨_, rfl, .refl _⟩, rfl, ⟨_, rfl, ?_⟩, rfl, trivial⟩
          rw [idxs_at hx, if_neg h1]; exact .refl _
    · simp -implicitDefEqProofs only [go_sem, evR, ints, rows, rat, rats, nodes, decide_eq_false (show ¬ (i : Int) < (l.length : Int) by omega)]
      refine he _ _ ?_
      simp -implicitDefEqProofs only [go_sem, evR, ints, rows, rat, rats]
      rw [show i = l.length by omega]; rfl
set_option maxRecDepth 20000 in
theorem impl_nodesOf_ok (l : List Nd) (pl : Int) (hl : l.length ≤ 1000000000000) : Fun Try.prog 181 [] [.t (treeT l), .t (.i pl)] fun o r => o = [] ∧ r = intsO (idxs l pl l.length) := by
  refine fun_impl_nodesOf (by simp) ?_
  simp -implicitDefEqProofs only [go_sem, evR, ints, rows, rat, rats, c_impl_nodesOf, treeT, nodes]
  refine SemC.loopR (σ := Nat) (fun i => St.of [(1, .t (.i pl)), (5, .own 77), (9, .t (nodes l)), (10, .t (.i l.length)), (11, .t (.i i))] [(77, .arr 1 ((idxs l pl i).map T.i))]) (fun i => i ≤ l.length) (fun i => l.length - i) 0 (Weak.of _ _ [none] (by simp) (by simp) ?_ ?_) (by omega) fun i hi R hn hr he => ?_
  · simp -implicitDefEqProofs only [ints, rows, Nat.reduceBEq, wkR, Nat.reduceEqDiff, ↓reduceIte, wrR, nodes, nd_len]
  · exact ⟨⟨1, rfl⟩, trivial⟩
  · rcases Nat.lt_or_ge i l.length with h9 | h9
    · obtain ⟨x, hx⟩ : ∃ x, l[i]? = some x := ⟨_, List.getElem?_eq_getElem h9⟩
      have hil := idxs_length l pl i
      simp -implicitDefEqProofs only [go_sem, evR, ints, rows, rat, rats, nodes, nd_at hx, decide_eq_true (show (i : Int) < (l.length : Int) by omega)]
      refine ⟨by omega, by rw [nd_len]; omega, by rw [nd_len]; omega, fun h1 => ⟨by omega, ?_⟩, fun h1 => ?_⟩
      · have h1 : x.p = pl := by simpa using h1
        refine hn _ (i + 1) (Weak.of _ _ [some 23] (by simp) (by simp) ?_ ?_) (by omega) (by omega)
        · simp -implicitDefEqProofs only [ints, rows, Nat.reduceBEq, wkR, Nat.reduceEqDiff, ↓reduceIte, wrR, nodes, next64 h9 hl]
        · refine ⟨⟨_, rfl, ?_⟩, rfl, trivial⟩
          rw [idxs_at hx, if_pos h1, List.map_append]; exact .refl _
      · have h1 : ¬ x.p = pl := by simpa using h1
        refine hn _ (i + 1) (Weak.of _ _ [some 77] (by simp) (by simp) ?_ ?_) (by omega) (by omega)
        · simp -implicitDefEqProofs only [ints, rows, Nat.reduceBEq, wkR, Nat.reduceEqDiff, ↓reduceIte, wrR, nodes, next64 h9 hl]
        · refine ⟨⟨_, rfl, ?_⟩, rfl, trivial⟩
          rw [idxs_at hx, if_neg h1]; exact .refl _
    · simp -implicitDefEqProofs only [go_sem, evR, ints, rows, rat, rats, nodes, decide_eq_false (show ¬ (i : Int) < (l.length : Int) by omega)]
      refine he _ _ ?_
      simp -implicitDefEqProofs only [go_sem, evR, ints, rows, rat, rats]
      rw [show i = l.length by omega]; rfl
def setsP (ns : List Int) (k i c : Nat) : List (List Int) := setsOf (ns.take i) k ++ (List.range c).map fun a : Nat => [ns.getD i 0, (a : Int)]
theorem setsP_zero (ns : List Int) (k i : Nat) : setsP ns k i 0 = setsOf (ns.take i) k := by simp [setsP]
theorem setsP_snoc (ns : List Int) (k i c : Nat) : setsP ns k i (c + 1) = setsP ns k i c ++ [[ns.getD i 0, (c : Int)]] := by simp [setsP, List.range_succ]
theorem setsP_next {ns : List Int} {k i : Nat} {n : Int} (h : ns[i]? = some n) : setsP ns k i k = setsP ns k (i + 1) 0 := by
  rw [setsP_zero, take_snoc h, setsOf_snoc, setsP, List.getD_eq_getElem?_getD, h]; rfl
theorem setsP_length (ns : List Int) (k i c : Nat) : (setsP ns k i c).length ≤ ns.length * k + c := by
  rw [setsP, List.length_append, setsOf_length, List.length_map, List.length_range, List.length_take]
  have : Nat.min i ns.length * k ≤ ns.length * k := Nat.mul_le_mul_right _ (Nat.min_le_right _ _)
  have e : min i ns.length = Nat.min i ns.length := rfl
  rw [e]; omega
theorem setsP_all (ns : List Int) (k : Nat) : setsP ns k ns.length 0 = setsOf ns k := by rw [setsP_zero, List.take_length]
theorem spec_l20Of_t (l : List Nd) (pl : Int) (hl : l.length ≤ 1000000000000) : Fun Try.prog 220 [] [.t (.agg [.sh 5 (chunk nodeC l)]), .t (.i pl)] fun o r => o = [] ∧ r = intsO (idxs l pl l.length) := spec_l20Of_ok l pl hl
theorem impl_nodesOf_t (l : List Nd) (pl : Int) (hl : l.length ≤ 1000000000000) : Fun Try.prog 181 [] [.t (.agg [.sh 5 (chunk nodeC l)]), .t (.i pl)] fun o r => o = [] ∧ r = intsO (idxs l pl l.length) := impl_nodesOf_ok l pl hl
set_option maxRecDepth 20000 in
theorem spec_l21Sets_ok (g : Gm) (pl : Int) (hl : g.nd.length ≤ 60) (hk : g.w.length ≤ 6) : Fun Try.prog 186 [] [.t (gameT g), .t (.i pl)] fun o r => o = [] ∧ r = rowsO (sets g pl) := by
  refine fun_spec_l21Sets (by simp) ?_
  simp -implicitDefEqProofs only [go_sem, evR, ints, rows, rat, rats, c_spec_l21Sets, gameT, nodes]
  refine CallW.res (spec_l20Of_t g.nd pl (by omega)) [] rfl Try.call220 ?_ (.inl rfl) ?_
  · simp -implicitDefEqProofs only [agR, Nat.reduceLeDiff, Nat.reduceSub, vaR, go_sem, ints, rows, rat, rats, ratsO, rtR, intsO, rowsO]
  simp -implicitDefEqProofs only [clR, Nat.reduceLeDiff, go_sem, evR, rat]
  have hns := idxs_length g.nd pl g.nd.length
  have hsets : sets g pl = setsOf (idxs g.nd pl g.nd.length) g.w.length := rfl
  rw [hsets]
  generalize idxs g.nd pl g.nd.length = ns at hns ⊢
  refine SemC.loopR (σ := Nat) (fun i => St.of [(2, .own 2), (5, .own 12), (6, .own 77), (7, .t (.i i))] [(2, .box [nodes g.nd, rows g.w, rows g.v]), (12, intsO ns), (77, .arr 1 ((setsP ns g.w.length i 0).map intsO))]) (fun i => i ≤ ns.length) (fun i => ns.length - i) 0 (Weak.of _ _ [some 2, some 12, some 13] (by simp) (by simp) ?_ ?_) (by omega) fun i hi R hn hr he => ?_
  · simp -implicitDefEqProofs only [ints, rows, Nat.reduceBEq, wkR, Nat.reduceEqDiff, ↓reduceIte, wrR, nodes]
  · exact ⟨⟨_, rfl, .refl _⟩, rfl, ⟨_, rfl, .refl _⟩, rfl, ⟨_, rfl, .refl _⟩, rfl, trivial⟩
  · rcases Nat.lt_or_ge i ns.length with h9 | h9
    · obtain ⟨n, hx⟩ : ∃ n, ns[i]? = some n := ⟨_, List.getElem?_eq_getElem h9⟩
      simp -implicitDefEqProofs only [go_sem, evR, ints, rows, rat, rats, nodes, intsO, decide_eq_true (show (i : Int) < (ns.length : Int) by omega)]
      refine SemC.loopR (σ := Nat) (fun c => St.of [(2, .own 2), (5, .own 12), (6, .own 77), (7, .t (.i i)), (8, .t (.i c))] [(2, .box [nodes g.nd, rows g.w, rows g.v]), (12, intsO ns), (77, .arr 1 ((setsP ns g.w.length i c).map intsO))]) (fun c => c ≤ g.w.length) (fun c => g.w.length - c) 0 (Weak.of _ _ [some 2, some 12, some 77] (by simp) (by simp) ?_ ?_) (by omega) fun c hc R2 hn2 hr2 he2 => ?_
      · simp -implicitDefEqProofs only [ints, rows, Nat.reduceBEq, wkR, Nat.reduceEqDiff, ↓reduceIte, wrR, nodes]
      · exact ⟨⟨_, rfl, .refl _⟩, rfl, ⟨_, rfl, .refl _⟩, rfl, ⟨_, rfl, .refl _⟩, rfl, trivial⟩
      · rcases Nat.lt_or_ge c g.w.length with h8 | h8
        · have hil := setsP_length ns g.w.length i c
          simp -implicitDefEqProofs only [go_sem, evR, ints, rows, rat, rats, nodes, intsO, hx, decide_eq_true (show (c : Int) < (g.w.length : Int) by omega)]
          have hmul : ns.length * g.w.length ≤ 60 * 6 := Nat.mul_le_mul (by omega) hk
          refine ⟨by omega, by omega, by omega, by omega, hn2 _ (c + 1) (Weak.of _ _ [some 2, some 12, some 35] (by simp) (by simp) ?_ ?_) (by omega) (by omega)⟩
          · simp -implicitDefEqProofs only [ints, rows, Nat.reduceBEq, wkR, Nat.reduceEqDiff, ↓reduceIte, wrR, nodes, next64 h8 (by omega)]
          · refine ⟨⟨_, rfl, .refl _⟩, rfl, ⟨_, rfl, .refl _⟩, rfl, ⟨_, rfl, ?_⟩, rfl, trivial⟩
            rw [setsP_snoc, List.map_append, List.getD_eq_getElem?_getD, hx]; exact .refl _
        · simp -implicitDefEqProofs only [go_sem, evR, ints, rows, rat, rats, nodes, decide_eq_false (show ¬ (c : Int) < (g.w.length : Int) by omega)]
          refine he2 _ _ ?_
          simp -implicitDefEqProofs only [go_sem, evR, ints, rows, rat, rats]
          refine hn _ (i + 1) (Weak.of _ _ [some 2, some 12, some 77] (by simp) (by simp) ?_ ?_) (by omega) (by omega)
          · simp -implicitDefEqProofs only [ints, rows, Nat.reduceBEq, wkR, Nat.reduceEqDiff, ↓reduceIte, wrR, nodes, next64 h9 (by omega)]
          · refine ⟨⟨_, rfl, .refl _⟩, rfl, ⟨_, rfl, .refl _⟩, rfl, ⟨_, rfl, ?_⟩, rfl, trivial⟩
            rw [show c = g.w.length by omega, setsP_next hx]; exact .refl _
    · simp -implicitDefEqProofs only [go_sem, evR, ints, rows, rat, rats, nodes, intsO, decide_eq_false (show ¬ (i : Int) < (ns.length : Int) by omega)]
      refine he _ _ ?_
      simp -implicitDefEqProofs only [go_sem, evR, ints, rows, rat, rats]
      rw [show i = ns.length by omega, setsP_all]; rfl
set_option maxRecDepth 20000 in
theorem impl_infoSets_ok (g : Gm) (pl : Int) (hl : g.nd.length ≤ 60) (hk : g.w.length ≤ 6) : Fun Try.prog 152 [] [.t (gameT g), .t (.i pl)] fun o r => o = [] ∧ r = rowsO (sets g pl) := by
  refine fun_impl_infoSets (by simp) ?_
  simp -implicitDefEqProofs only [go_sem, evR, ints, rows, rat, rats, c_impl_infoSets, gameT, nodes]
  refine CallW.res (impl_nodesOf_t g.nd pl (by omega)) [] rfl Try.call181 ?_ (.inl rfl) ?_
  · simp -implicitDefEqProofs only [agR, Nat.reduceLeDiff, Nat.reduceSub, vaR, go_sem, ints, rows, rat, rats, ratsO, rtR, intsO, rowsO]
  simp -implicitDefEqProofs only [clR, Nat.reduceLeDiff, go_sem, evR, rat, intsO]
  have hns := idxs_length g.nd pl g.nd.length
  have hsets : sets g pl = setsOf (idxs g.nd pl g.nd.length) g.w.length := rfl
  rw [hsets]
  generalize idxs g.nd pl g.nd.length = ns at hns ⊢
  refine SemC.loopR (σ := Nat) (fun i => St.of [(2, .own 2), (5, .own 77), (12, .own 12), (13, .t (.i ns.length)), (14, .t (.i i))] [(2, .box [nodes g.nd, rows g.w, rows g.v]), (12, intsO ns), (77, .arr 1 ((setsP ns g.w.length i 0).map intsO))]) (fun i => i ≤ ns.length) (fun i => ns.length - i) 0 (Weak.of _ _ [some 2, some 12, none] (by simp) (by simp) ?_ ?_) (by omega) fun i hi R hn hr he => ?_
  · simp -implicitDefEqProofs only [ints, rows, Nat.reduceBEq, wkR, Nat.reduceEqDiff, ↓reduceIte, wrR, nodes]
  · exact ⟨⟨_, rfl, .refl _⟩, rfl, ⟨_, rfl, .refl _⟩, rfl, ⟨1, rfl⟩, trivial⟩
  · rcases Nat.lt_or_ge i ns.length with h9 | h9
    · obtain ⟨n, hx⟩ : ∃ n, ns[i]? = some n := ⟨_, List.getElem?_eq_getElem h9⟩
      simp -implicitDefEqProofs only [go_sem, evR, ints, rows, rat, rats, nodes, intsO, hx, decide_eq_true (show (i : Int) < (ns.length : Int) by omega)]
      refine ⟨by omega, by omega, by omega, ?_⟩
      refine SemC.loopR (σ := Nat) (fun c => St.of [(2, .own 2), (5, .own 77), (7, .t (.i n)), (12, .own 12), (13, .t (.i ns.length)), (14, .t (.i i)), (20, .t (.i g.w.length)), (21, .t (.i c))] [(2, .box [nodes g.nd, rows g.w, rows g.v]), (12, intsO ns), (77, .arr 1 ((setsP ns g.w.length i c).map intsO))]) (fun c => c ≤ g.w.length) (fun c => g.w.length - c) 0 (Weak.of _ _ [some 2, some 12, some 77] (by simp) (by simp) ?_ ?_) (by omega) fun c hc R2 hn2 hr2 he2 => ?_
      · simp -implicitDefEqProofs only [ints, rows, Nat.reduceBEq, wkR, Nat.reduceEqDiff, ↓reduceIte, wrR, nodes]
      · exact ⟨⟨_, rfl, .refl _⟩, rfl, ⟨_, rfl, .refl _⟩, rfl, ⟨_, rfl, .refl _⟩, rfl, trivial⟩
      · rcases Nat.lt_or_ge c g.w.length with h8 | h8
        · have hil := setsP_length ns g.w.length i c
          simp -implicitDefEqProofs only [go_sem, evR, ints, rows, rat, rats, nodes, intsO, decide_eq_true (show (c : Int) < (g.w.length : Int) by omega)]
          have hmul : ns.length * g.w.length ≤ 60 * 6 := Nat.mul_le_mul (by omega) hk
          refine ⟨by omega, hn2 _ (c + 1) (Weak.of _ _ [some 2, some 12, some 29] (by simp) (by simp) ?_ ?_) (by omega) (by omega)⟩
          · simp -implicitDefEqProofs only [ints, rows, Nat.reduceBEq, wkR, Nat.reduceEqDiff, ↓reduceIte, wrR, nodes, next64 h8 (by omega)]
          · refine ⟨⟨_, rfl, .refl _⟩, rfl, ⟨_, rfl, .refl _⟩, rfl, ⟨_, rfl, ?_⟩, rfl, trivial⟩
            rw [setsP_snoc, List.map_append, List.getD_eq_getElem?_getD, hx]; exact .refl _
        · simp -implicitDefEqProofs only [go_sem, evR, ints, rows, rat, rats, nodes, decide_eq_false (show ¬ (c : Int) < (g.w.length : Int) by omega)]
          refine he2 _ _ ?_
          simp -implicitDefEqProofs only [go_sem, evR, ints, rows, rat, rats]
          refine hn _ (i + 1) (Weak.of _ _ [some 2, some 12, some 77] (by simp) (by simp) ?_ ?_) (by omega) (by omega)
          · simp -implicitDefEqProofs only [ints, rows, Nat.reduceBEq, wkR, Nat.reduceEqDiff, ↓reduceIte, wrR, nodes, next64 h9 (by omega)]
          · refine ⟨⟨_, rfl, .refl _⟩, rfl, ⟨_, rfl, .refl _⟩, rfl, ⟨_, rfl, ?_⟩, rfl, trivial⟩
            rw [show c = g.w.length by omega, setsP_next hx]; exact .refl _
    · simp -implicitDefEqProofs only [go_sem, evR, ints, rows, rat, rats, nodes, intsO, decide_eq_false (show ¬ (i : Int) < (ns.length : Int) by omega)]
      refine he _ _ ?_
      simp -implicitDefEqProofs only [go_sem, evR, ints, rows, rat, rats]
      rw [show i = ns.length by omega, setsP_all]; rfl
end
end Go.Ab

/- Contracts: valid strategies. -/
set_option linter.unusedSimpArgs false
set_option linter.unusedVariables false
namespace Go.Ab
open Go.Proofs

theorem set_elem {g : Gm} {pl : Int} {i : Nat} (h : i < (sets g pl).length) : ∃ (n c : Nat) (x : Nd), (sets g pl)[i]? = some [(n : Int), (c : Int)] ∧ g.nd[n]? = some x ∧ n < g.nd.length ∧ c < g.w.length ∧ x.p = pl ∧ sizeAt g pl i = x.ch.length := by
  have hg := List.getElem?_eq_getElem h
  obtain ⟨n0, hn0, c, hc, e⟩ := setsOf_mem (List.getElem_mem h)
  obtain ⟨n, rfl, hn, hp⟩ := idxs_mem hn0
  rw [e] at hg
  have hx : g.nd[n]? = some g.nd[n] := List.getElem?_eq_getElem hn
  have hd : g.nd.getD n nd0 = g.nd[n] := by rw [List.getD_eq_getElem?_getD, hx]; rfl
  refine ⟨n, c, g.nd[n], hg, hx, hn, hc, by rw [← hd]; exact hp, ?_⟩
  have e0 : (sets g pl).getD i [] = [(n : Int), (c : Int)] := by rw [List.getD_eq_getElem?_getD, hg]; rfl
  rw [sizeAt, e0, ← hd]; rfl
theorem isStratB_iff {g : Gm} {pl : Int} {pt : List (List Int)} : isStratB g pl pt = true ↔ pt.length = (sets g pl).length ∧ ∀ i, i < (sets g pl).length → partOK (sizeAt g pl i) (pt.getD i []) = true := by
  simp only [isStratB, Bool.and_eq_true, decide_eq_true_eq, List.all_eq_true, List.mem_range]
theorem isStratB_no {g : Gm} {pl : Int} {pt : List (List Int)} (h : ¬ (pt.length = (sets g pl).length ∧ ∀ i, i < (sets g pl).length → partOK (sizeAt g pl i) (pt.getD i []) = true)) : isStratB g pl pt = false := by
  cases hc : isStratB g pl pt with
  | false => rfl
  | true => exact absurd (isStratB_iff.1 hc) h
theorem partOK_iff {n : Nat} {l : List Int} : partOK n l = true ↔ l.length = n ∧ (l.all fun x => decide (0 ≤ x ∧ x ≤ 60)) = true ∧ l.sum = 60 := by
  simp only [partOK, Bool.and_eq_true, decide_eq_true_eq, sumI_eq, and_assoc]
theorem sets_len (g : Gm) (pl : Int) (hl : g.nd.length ≤ 60) (hk : g.w.length ≤ 6) : (sets g pl).length ≤ 360 := by
  rw [sets_length]
  have := idxs_length g.nd pl g.nd.length
  have : (idxs g.nd pl g.nd.length).length * g.w.length ≤ 60 * 6 := Nat.mul_le_mul (by omega) hk
  omega
theorem all60_small {r : List Int} (h : (r.all fun x => decide (0 ≤ x ∧ x ≤ 60)) = true) (hl : r.length ≤ 1000) : smallL r := by
  rw [List.all_eq_true] at h
  exact ⟨hl, fun x hx => by have := h x hx; simp only [decide_eq_true_eq] at this; omega⟩
def strB (g : Gm) (s : Int × List (List Int)) : Bool := isGameB g && decide (0 ≤ s.1 ∧ s.1 ≤ 1) && isStratB g s.1 s.2
theorem infoSets_t (g : Gm) (pl : Int) (hl : g.nd.length ≤ 60) (hk : g.w.length ≤ 6) : Fun Try.prog 152 [] [.t (.agg [.sh 5 (chunk nodeC g.nd), .sh 1 (g.w.map ints), .sh 1 (g.v.map ints)]), .t (.i pl)] fun o r => o = [] ∧ r = rowsO (sets g pl) := impl_infoSets_ok g pl hl hk
theorem l21Sets_t (g : Gm) (pl : Int) (hl : g.nd.length ≤ 60) (hk : g.w.length ≤ 6) : Fun Try.prog 186 [] [.t (.agg [.sh 5 (chunk nodeC g.nd), .sh 1 (g.w.map ints), .sh 1 (g.v.map ints)]), .t (.i pl)] fun o r => o = [] ∧ r = rowsO (sets g pl) := spec_l21Sets_ok g pl hl hk
theorem arr_toSh (m : List (List Int)) : (T.arr 1 (m.map intsO)).toSh = T.sh 1 (m.map ints) := rowsO_toSh m
section
attribute [-go_sem] load1C load1V fldC lenC idxC loadNV
set_option maxRecDepth 20000 in
theorem impl_isStrategy_ok (g : Gm) (s : Int × List (List Int)) (hg : isGameB g = true) (hs : rowsL s.2) : Pure Try.prog 153 [gameT g, stratT s] (.b (isStratB g s.1 s.2)) := by
  obtain ⟨pl, pt⟩ := s
  obtain ⟨hs1, hs2⟩ := hs
  simp only [] at hs1 hs2 ⊢
  obtain ⟨p1, p2, p3, p4, p5⟩ := isGameB_parts hg
  obtain ⟨t1, t2, t3, t4⟩ := isTreeB_spec p1
  have hnl : ∀ {n : Nat} {x : Nd}, g.nd[n]? = some x → x.ch.length ≤ 4 := fun hx => (ndOK_fields (t2 _ _ hx)).2.2.2.2.2
  have hsl := sets_len g pl t1.2 p2.2
  refine fun_impl_isStrategy (by simp) ?_
  simp -implicitDefEqProofs only [go_sem, evR, ints, rows, rat, rats, c_impl_isStrategy, gameT, stratT, nodes]
  refine CallW.res (infoSets_t g pl t1.2 p2.2) [] rfl Try.call152 ?_ (.inl rfl) ?_
  · simp -implicitDefEqProofs only [agR, Nat.reduceLeDiff, Nat.reduceSub, vaR, go_sem, ints, rows, rat, rats, ratsO, rtR, intsO, rowsO]
  simp -implicitDefEqProofs only [clR, Nat.reduceLeDiff, go_sem, evR, rat, rowsO]
  refine ⟨fun h1 => ?_, fun h1 => ?_⟩
  · have h1 : ¬ pt.length = (sets g pl).length := by simp at h1; omega
    rw [isStratB_no fun h => h1 h.1]
  have h1 : pt.length = (sets g pl).length := by simp at h1; omega
  refine SemC.loopR (σ := Nat) (fun i => St.of [(2, .own 2), (3, .own 3), (19, .t (rows (sets g pl))), (20, .t (.i (sets g pl).length)), (21, .t (.i i))] [(2, .box [nodes g.nd, rows g.w, rows g.v]), (3, .box [.i pl, rows pt])]) (fun i => i ≤ (sets g pl).length ∧ ∀ j, j < i → partOK (sizeAt g pl j) (pt.getD j []) = true) (fun i => (sets g pl).length - i) 0 (Weak.trans (Weak.share 12 rfl) (Weak.of _ _ [some 2, some 3] (by simp) (by simp) ?_ ?_)) ⟨by omega, fun j hj => by omega⟩ fun i hI R hn hr he => ?_
  · simp -implicitDefEqProofs only [ints, rows, Nat.reduceBEq, wkR, Nat.reduceEqDiff, ↓reduceIte, wrR, shareA, arr_toSh, nodes]
  · exact ⟨⟨_, rfl, .refl _⟩, rfl, ⟨_, rfl, .refl _⟩, rfl, trivial⟩
  · obtain ⟨hi, hok⟩ := hI
    rcases Nat.lt_or_ge i (sets g pl).length with h9 | h9
    · obtain ⟨n, c, x, hx1, hx2, hx3, hx4, hx5, hx6⟩ := set_elem h9
      obtain ⟨r, hr1⟩ : ∃ r, pt[i]? = some r := ⟨_, List.getElem?_eq_getElem (by omega)⟩
      have hrd : pt.getD i [] = r := by rw [List.getD_eq_getElem?_getD, hr1]; rfl
      have hno : ¬ partOK x.ch.length r = true → isStratB g pl pt = false := fun hc => isStratB_no fun h => hc (by have := h.2 i h9; rwa [hx6, hrd] at this)
      have hxl := hnl hx2
      simp -implicitDefEqProofs only [go_sem, evR, ints, rows, rat, rats, nodes, hx1, hr1, nd_get4 hx2, decide_eq_true (show (i : Int) < ((sets g pl).length : Int) by omega)]
      refine ⟨by omega, by omega, by omega, by omega, by omega, by omega, by omega, by rw [nd_len]; omega, by rw [nd_len]; omega, fun h2 => ?_, fun h2 => hr _ ?_⟩
      rotate_left
      · simp -implicitDefEqProofs only [go_sem, evR, ints, rows, rat, rats]
        rw [hno fun h => by have := (partOK_iff.1 h).1; simp at h2; omega]
      have h2 : r.length = x.ch.length := by simp at h2; omega
      refine CallV.pure (impl_allWithin_ok r 0 60 (by omega)) [] rfl Try.call176 (fun e R' hR => ?_) (by first | trivial | simp [T.noSh, T.noShL, rat]) (fun _ => rfl) ?_
      · simp -implicitDefEqProofs only [agR, Nat.reduceLeDiff, Nat.reduceSub, vaR, go_sem, ints, rows, rat, rats, ratsO, rtR, intsO, rowsO]
      simp -implicitDefEqProofs only [go_sem, evR, ints, rows, rat, rats]
      refine ⟨fun h3 => ?_, fun h3 => hr _ ?_⟩
      rotate_left
      · simp -implicitDefEqProofs only [go_sem, evR, ints, rows, rat, rats]
        rw [hno fun h => by rw [(partOK_iff.1 h).2.1] at h3; simp at h3]
      have h3 : (r.all fun x => decide (0 ≤ x ∧ x ≤ 60)) = true := bnF h3
      refine CallV.pure (impl_sumOf_ok r (all60_small h3 (by omega))) [] rfl Try.call200 (fun e R' hR => ?_) (by first | trivial | simp [T.noSh, T.noShL, rat]) (fun _ => rfl) ?_
      · simp -implicitDefEqProofs only [agR, Nat.reduceLeDiff, Nat.reduceSub, vaR, go_sem, ints, rows, rat, rats, ratsO, rtR, intsO, rowsO]
      simp -implicitDefEqProofs only [go_sem, evR, ints, rows, rat, rats]
      refine ⟨fun h4 => hr _ ?_, fun h4 => hn _ (i + 1) (Weak.of _ _ [some 2, some 3] (by simp) (by simp) ?_ ?_) ⟨by omega, fun j hj => ?_⟩ (by omega)⟩
      · simp -implicitDefEqProofs only [go_sem, evR, ints, rows, rat, rats]
        rw [hno fun h => by have := (partOK_iff.1 h).2.2; simp at h4; omega]
      · simp -implicitDefEqProofs only [ints, rows, Nat.reduceBEq, wkR, Nat.reduceEqDiff, ↓reduceIte, wrR, nodes, next64 h9 (by omega)]
      · exact ⟨⟨_, rfl, .refl _⟩, rfl, ⟨_, rfl, .refl _⟩, rfl, trivial⟩
      · by_cases hji : j = i
        · subst hji; rw [hx6, hrd]; exact partOK_iff.2 ⟨h2, h3, by simpa using h4⟩
        · exact hok j (by omega)
    · simp -implicitDefEqProofs only [go_sem, evR, ints, rows, rat, rats, nodes, decide_eq_false (show ¬ (i : Int) < ((sets g pl).length : Int) by omega)]
      refine he _ _ ?_
      simp -implicitDefEqProofs only [go_sem, evR, ints, rows, rat, rats]
      rw [isStratB_iff.2 ⟨h1, fun j hj => hok j (by omega)⟩]
end
end Go.Ab

/- Contracts: valid strategies, exported. -/
set_option linter.unusedSimpArgs false
set_option linter.unusedVariables false
namespace Go.Ab
open Go.Proofs

section
attribute [-go_sem] load1C load1V fldC lenC idxC loadNV
theorem isGame_t {f : FuncId} {g : Gm} {b : Bool} (h : Pure Try.prog f [gameT g] (.b b)) : Pure Try.prog f [.agg [.sh 5 (chunk nodeC g.nd), .sh 1 (g.w.map ints), .sh 1 (g.v.map ints)]] (.b b) := h
set_option maxRecDepth 20000 in
theorem spec_IsStrategy_ok (g : Gm) (s : Int × List (List Int)) (hg : gameL g) (hs : rowsL s.2) : Pure Try.prog 131 [gameT g, stratT s] (.b (strB g s)) := by
  refine fun_spec_IsStrategy (by simp) ?_
  simp -implicitDefEqProofs only [go_sem, evR, ints, rows, rat, rats, c_spec_IsStrategy, gameT, stratT, nodes]
  refine CallW.pure (isGame_t (spec_IsGame_ok g hg)) [] rfl Try.call139 ?_ (by first | trivial | simp [T.noSh, T.noShL, rat]) rfl ?_
  · simp -implicitDefEqProofs only [agR, Nat.reduceLeDiff, Nat.reduceSub, vaR, go_sem, ints, rows, rat, rats, ratsO, rtR, intsO, rowsO]
  simp -implicitDefEqProofs only [go_sem, evR, ints, rows, rat, rats]
  refine ⟨fun h1 => ?_, fun h1 => ?_⟩
  rotate_left
  · have h1 : isGameB g = false := by simpa using h1
    rw [strB, h1]; rfl
  have h1 : isGameB g = true := by simpa using h1
  refine CallW.pure (spec_l01In_ok s.1 0 1) [] rfl Try.call148 ?_ (by first | trivial | simp [T.noSh, T.noShL, rat]) rfl ?_
  · simp -implicitDefEqProofs only [agR, Nat.reduceLeDiff, Nat.reduceSub, vaR, go_sem, ints, rows, rat, rats, ratsO, rtR, intsO, rowsO]
  simp -implicitDefEqProofs only [go_sem, evR, ints, rows, rat, rats]
  refine ⟨fun h2 => ?_, fun h2 => ?_⟩
  · have h2 := bnT h2
    rw [strB, h2, Bool.and_false]; rfl
  have h2 := bnF h2
  have hstr : strB g s = isStratB g s.1 s.2 := by rw [strB, h1, h2]; rfl
  rw [hstr]
  obtain ⟨pl, pt⟩ := s
  obtain ⟨hs1, hs2⟩ := hs
  (try simp only [] at hs1 hs2 h2 ⊢)
  obtain ⟨p1, p2, p3, p4, p5⟩ := isGameB_parts h1
  obtain ⟨t1, t2, t3, t4⟩ := isTreeB_spec p1
  have hnl : ∀ {n : Nat} {x : Nd}, g.nd[n]? = some x → x.ch.length ≤ 4 := fun hx => (ndOK_fields (t2 _ _ hx)).2.2.2.2.2
  have hsl := sets_len g pl t1.2 p2.2
  refine CallW.res (l21Sets_t g pl t1.2 p2.2) [] rfl Try.call186 ?_ (.inl rfl) ?_
  · simp -implicitDefEqProofs only [agR, Nat.reduceLeDiff, Nat.reduceSub, vaR, go_sem, ints, rows, rat, rats, ratsO, rtR, intsO, rowsO]
  simp -implicitDefEqProofs only [clR, Nat.reduceLeDiff, go_sem, evR, rat, rowsO]
  refine ⟨fun h3 => ?_, fun h3 => ?_⟩
  · have h3 : ¬ pt.length = (sets g pl).length := by simp at h3; omega
    rw [isStratB_no fun h => h3 h.1]
  have h3 : pt.length = (sets g pl).length := by simp at h3; omega
  refine SemC.loopR (σ := Nat) (fun i => St.of [(2, .own 2), (3, .own 3), (5, .t (rows (sets g pl))), (6, .t (.i i))] [(2, .box [nodes g.nd, rows g.w, rows g.v]), (3, .box [.i pl, rows pt])]) (fun i => i ≤ (sets g pl).length ∧ ∀ j, j < i → partOK (sizeAt g pl j) (pt.getD j []) = true) (fun i => (sets g pl).length - i) 0 (Weak.trans (Weak.share 20 rfl) (Weak.of _ _ [some 2, some 3] (by simp) (by simp) ?_ ?_)) ⟨by omega, fun j hj => by omega⟩ fun i hI R hn hr he => ?_
  · simp -implicitDefEqProofs only [ints, rows, Nat.reduceBEq, wkR, Nat.reduceEqDiff, ↓reduceIte, wrR, shareA, arr_toSh, nodes]
  · exact ⟨⟨_, rfl, .refl _⟩, rfl, ⟨_, rfl, .refl _⟩, rfl, trivial⟩
  · obtain ⟨hi, hok⟩ := hI
    rcases Nat.lt_or_ge i (sets g pl).length with h9 | h9
    · obtain ⟨n, c, x, hx1, hx2, hx3, hx4, hx5, hx6⟩ := set_elem h9
      obtain ⟨r, hr1⟩ : ∃ r, pt[i]? = some r := ⟨_, List.getElem?_eq_getElem (by omega)⟩
      have hrd : pt.getD i [] = r := by rw [List.getD_eq_getElem?_getD, hr1]; rfl
      have hno : ¬ partOK x.ch.length r = true → isStratB g pl pt = false := fun hc => isStratB_no fun h => hc (by have := h.2 i h9; rwa [hx6, hrd] at this)
      have hxl := hnl hx2
      simp -implicitDefEqProofs only [go_sem, evR, ints, rows, rat, rats, nodes, hx1, hr1, nd_get4 hx2, decide_eq_true (show (i : Int) < ((sets g pl).length : Int) by omega)]
      refine ⟨by omega, by omega, by omega, by omega, by omega, by omega, by omega, by rw [nd_len]; omega, by rw [nd_len]; omega, fun h4 => hr _ ?_, fun h4 => ?_⟩
      · simp -implicitDefEqProofs only [go_sem, evR, ints, rows, rat, rats]
        rw [hno fun h => by have := (partOK_iff.1 h).1; simp at h4; omega]
      have h4 : r.length = x.ch.length := by simp at h4; omega
      refine SemC.loopR (σ := Nat) (fun k => St.of [(2, .own 2), (3, .own 3), (5, .t (rows (sets g pl))), (6, .t (.i i)), (7, .t (.i k))] [(2, .box [nodes g.nd, rows g.w, rows g.v]), (3, .box [.i pl, rows pt])]) (fun k => k ≤ r.length ∧ ∀ t y, t < k → r[t]? = some y → 0 ≤ y ∧ y ≤ 60) (fun k => r.length - k) 0 (Weak.of _ _ [some 2, some 3] (by simp) (by simp) ?_ ?_) ⟨by omega, fun t y ht => by omega⟩ fun k hK R2 hn2 hr2 he2 => ?_
      · simp -implicitDefEqProofs only [ints, rows, Nat.reduceBEq, wkR, Nat.reduceEqDiff, ↓reduceIte, wrR, nodes]
      · exact ⟨⟨_, rfl, .refl _⟩, rfl, ⟨_, rfl, .refl _⟩, rfl, trivial⟩
      · obtain ⟨hk, hels⟩ := hK
        rcases Nat.lt_or_ge k r.length with h8 | h8
        · obtain ⟨y, hy⟩ : ∃ y, r[k]? = some y := ⟨_, List.getElem?_eq_getElem h8⟩
          simp -implicitDefEqProofs only [go_sem, evR, ints, rows, rat, rats, nodes, hr1, hy, decide_eq_true (show (k : Int) < (r.length : Int) by omega)]
          refine ⟨by omega, by omega, by omega, by omega, by omega, by omega, by omega, by omega, by omega, ?_⟩
          refine CallW.pure (spec_l01In_ok y 0 60) [] rfl Try.call148 ?_ (by first | trivial | simp [T.noSh, T.noShL, rat]) rfl ?_
          · simp -implicitDefEqProofs only [agR, Nat.reduceLeDiff, Nat.reduceSub, vaR, go_sem, ints, rows, rat, rats, ratsO, rtR, intsO, rowsO]
          simp -implicitDefEqProofs only [go_sem, evR, ints, rows, rat, rats]
          refine ⟨fun h5 => hr2 _ ?_, fun h5 => hn2 _ (k + 1) (Weak.of _ _ [some 2, some 3] (by simp) (by simp) ?_ ?_) ⟨by omega, fun t z ht hz => ?_⟩ (by omega)⟩
          · simp -implicitDefEqProofs only [go_sem, evR, ints, rows, rat, rats]
            refine hr _ ?_
            simp -implicitDefEqProofs only [go_sem, evR, ints, rows, rat, rats]
            rw [hno fun h => by have := List.all_eq_true.1 (partOK_iff.1 h).2.1 y (List.mem_of_getElem? hy); rw [bnT h5] at this; simp at this]
          · simp -implicitDefEqProofs only [ints, rows, Nat.reduceBEq, wkR, Nat.reduceEqDiff, ↓reduceIte, wrR, nodes, next64 h8 (by omega)]
          · exact ⟨⟨_, rfl, .refl _⟩, rfl, ⟨_, rfl, .refl _⟩, rfl, trivial⟩
          · by_cases htk : t = k
            · subst htk; rw [hy] at hz; cases hz
              simpa using bnF h5
            · exact hels t z (by omega) hz
        · simp -implicitDefEqProofs only [go_sem, evR, ints, rows, rat, rats, nodes, hr1, decide_eq_false (show ¬ (k : Int) < (r.length : Int) by omega)]
          refine ⟨by omega, by omega, by omega, he2 _ _ ?_⟩
          have hall : (r.all fun x => decide (0 ≤ x ∧ x ≤ 60)) = true := List.all_eq_true.2 fun z hz => by
            obtain ⟨u, hu, rfl⟩ := List.mem_iff_getElem.1 hz
            exact decide_eq_true (hels u _ (by omega) (List.getElem?_eq_getElem hu))
          simp -implicitDefEqProofs only [go_sem, evR, ints, rows, rat, rats, nodes, hr1]
          refine ⟨by omega, by omega, by omega, ?_⟩
          refine CallW.pure (spec_l01Sum_ok r (all60_small hall (by omega))) [] rfl Try.call187 ?_ (by first | trivial | simp [T.noSh, T.noShL, rat]) rfl ?_
          · simp -implicitDefEqProofs only [agR, Nat.reduceLeDiff, Nat.reduceSub, vaR, go_sem, ints, rows, rat, rats, ratsO, rtR, intsO, rowsO]
          simp -implicitDefEqProofs only [go_sem, evR, ints, rows, rat, rats]
          refine ⟨fun h5 => hr _ ?_, fun h5 => hn _ (i + 1) (Weak.of _ _ [some 2, some 3] (by simp) (by simp) ?_ ?_) ⟨by omega, fun j hj => ?_⟩ (by omega)⟩
          · simp -implicitDefEqProofs only [go_sem, evR, ints, rows, rat, rats]
            rw [hno fun h => by have := (partOK_iff.1 h).2.2; simp at h5; omega]
          · simp -implicitDefEqProofs only [ints, rows, Nat.reduceBEq, wkR, Nat.reduceEqDiff, ↓reduceIte, wrR, nodes, next64 h9 (by omega)]
          · exact ⟨⟨_, rfl, .refl _⟩, rfl, ⟨_, rfl, .refl _⟩, rfl, trivial⟩
          · by_cases hji : j = i
            · subst hji; rw [hx6, hrd]; exact partOK_iff.2 ⟨h4, hall, by simpa using h5⟩
            · exact hok j (by omega)
    · simp -implicitDefEqProofs only [go_sem, evR, ints, rows, rat, rats, nodes, decide_eq_false (show ¬ (i : Int) < ((sets g pl).length : Int) by omega)]
      refine he _ _ ?_
      simp -implicitDefEqProofs only [go_sem, evR, ints, rows, rat, rats]
      rw [isStratB_iff.2 ⟨h3, fun j hj => hok j (by omega)⟩]
end
end Go.Ab

/- Contracts: payoffs, powers, units, places of sets. -/
set_option linter.unusedSimpArgs false
set_option linter.unusedVariables false
namespace Go.Ab
open Go.Proofs

theorem pay_eq {g : Gm} {i a b : Nat} {x : Nd} {r : List Int} {y : Int} (hx : g.nd[i]? = some x) (hr : g.v[a]? = some r) (hy : r[b]? = some y) : pay g i a b = if (if x.f = 0 then -1 else if x.f = 1 then 1 else y) = 1 then x.b else if (if x.f = 0 then -1 else if x.f = 1 then 1 else y) = -1 then -x.a else 0 := by
  have e1 : g.nd.getD i nd0 = x := by rw [List.getD_eq_getElem?_getD, hx]; rfl
  have e2 : (g.v.getD a []).getD b 0 = y := by rw [List.getD_eq_getElem?_getD, List.getD_eq_getElem?_getD, hr, Option.getD_some, hy]; rfl
  rw [pay, e1, e2]
theorem game_row {g : Gm} (hg : isGameB g = true) {a b : Nat} (ha : a < g.w.length) (hb : b < g.w.length) : ∃ r y, g.v[a]? = some r ∧ r[b]? = some y := by
  obtain ⟨h1, h2⟩ := matK_iff.1 (isGameB_parts hg).2.2.2.1
  have hx := List.getElem?_eq_getElem (show a < g.v.length by omega)
  have h3 := (h2 _ (List.getElem_mem (show a < g.v.length by omega))).1
  exact ⟨_, _, hx, List.getElem?_eq_getElem (by omega)⟩
theorem game_w {g : Gm} (hg : isGameB g = true) {a b : Nat} (ha : a < g.w.length) (hb : b < g.w.length) : ∃ r y, g.w[a]? = some r ∧ r[b]? = some y ∧ 0 ≤ y ∧ y ≤ 9 := by
  obtain ⟨h1, h2⟩ := matK_iff.1 (isGameB_parts hg).2.2.1
  have hx := List.getElem?_eq_getElem ha
  obtain ⟨h3, h4⟩ := h2 _ (List.getElem_mem ha)
  have hl : b < g.w[a].length := by omega
  exact ⟨_, _, hx, List.getElem?_eq_getElem hl, h4 _ (List.getElem_mem hl)⟩
theorem pw_le : ∀ {p q : Nat}, p ≤ q → pw p ≤ pw q := by
  intro p q h
  induction h with
  | refl => exact Int.le_refl _
  | step h ih => rw [pw_succ]; have := pw_pos (p := ‹Nat›); omega
def unit (g : Gm) : Int := totW g.w * pw (dpt g)
section
attribute [-go_sem] load1C load1V fldC lenC idxC loadNV
set_option maxRecDepth 20000 in
theorem impl_payoffAt_ok (g : Gm) (hg : isGameB g = true) (i a b : Nat) (hi : i < g.nd.length) (ha : a < g.w.length) (hb : b < g.w.length) : Pure Try.prog 213 [gameT g, .i i, .i a, .i b] (.i (pay g i a b)) := by
  obtain ⟨p1, p2, p3, p4, p5⟩ := isGameB_parts hg
  obtain ⟨t1, t2, t3, t4⟩ := isTreeB_spec p1
  obtain ⟨x, hx⟩ : ∃ x, g.nd[i]? = some x := ⟨_, List.getElem?_eq_getElem hi⟩
  obtain ⟨r, y, hr, hy⟩ := game_row hg ha hb
  have hf := ndOK_fields (t2 _ _ hx)
  have hal := (List.getElem?_eq_some_iff.1 hr).1
  have hbl := (List.getElem?_eq_some_iff.1 hy).1
  rw [pay_eq hx hr hy]
  refine fun_impl_payoffAt (by simp) ?_
  simp -implicitDefEqProofs only [go_sem, evR, ints, rows, rat, rats, c_impl_payoffAt, gameT, nodes, nd_at hx, hr, hy]
  refine ⟨by omega, by rw [nd_len]; omega, by rw [nd_len]; omega, by omega, by omega, by omega, by omega, by omega, by omega, ?_⟩
  rw [wrap64 (n := 0 - x.a) (by omega) (by omega), Int.zero_sub]
  by_cases h0 : x.f = 0
  · simp [h0]
  · by_cases h1 : x.f = 1
    · simp [h1]
    · by_cases h2 : y = 1
      · simp [h0, h1, h2]
      · by_cases h3 : y = -1 <;> simp [h0, h1, h2, h3]
set_option maxRecDepth 20000 in
theorem spec_l21Payoff_ok (g : Gm) (hg : isGameB g = true) (i a b : Nat) (hi : i < g.nd.length) (ha : a < g.w.length) (hb : b < g.w.length) : Pure Try.prog 215 [gameT g, .i i, .i a, .i b] (.i (pay g i a b)) := by
  obtain ⟨p1, p2, p3, p4, p5⟩ := isGameB_parts hg
  obtain ⟨t1, t2, t3, t4⟩ := isTreeB_spec p1
  obtain ⟨x, hx⟩ : ∃ x, g.nd[i]? = some x := ⟨_, List.getElem?_eq_getElem hi⟩
  obtain ⟨r, y, hr, hy⟩ := game_row hg ha hb
  have hf := ndOK_fields (t2 _ _ hx)
  have hal := (List.getElem?_eq_some_iff.1 hr).1
  have hbl := (List.getElem?_eq_some_iff.1 hy).1
  rw [pay_eq hx hr hy]
  refine fun_spec_l21Payoff (by simp) ?_
  simp -implicitDefEqProofs only [go_sem, evR, ints, rows, rat, rats, c_spec_l21Payoff, gameT, nodes, nd_at hx, hr, hy]
  refine ⟨by omega, by rw [nd_len]; omega, by rw [nd_len]; omega, by omega, by omega, by omega, by omega, by omega, by omega, ?_⟩
  rw [wrap64 (n := 0 - x.a) (by omega) (by omega), Int.zero_sub]
  by_cases h0 : x.f = 0
  · simp [h0]
  · by_cases h1 : x.f = 1
    · simp [h1]
    · by_cases h2 : y = 1
      · simp [h0, h1, h2]
      · by_cases h3 : y = -1 <;> simp [h0, h1, h2, h3]
theorem impl_powerOf_ok (p : Nat) (hp : p ≤ 8) : Pure Try.prog 163 [.i 60, .i p] (.i (pw p)) := by
  refine fun_impl_powerOf (by simp) ?_
  simp -implicitDefEqProofs only [go_sem, evR, ints, rows, rat, rats, c_impl_powerOf]
  refine SemC.loopR (σ := Nat) (fun i => St.of [(0, .t (.i 60)), (5, .t (.i (pw i))), (6, .t (.i p)), (7, .t (.i i))] []) (fun i => i ≤ p) (fun i => p - i) 0 (Weak.of _ [] [] (by simp) (by simp) ?_ trivial) (by omega) fun i hi R hn hr he => ?_
  · simp -implicitDefEqProofs only [ints, rows, Nat.reduceBEq, wkR, Nat.reduceEqDiff, ↓reduceIte, wrR, show pw 0 = 1 from rfl]
  · rcases Nat.lt_or_ge i p with h9 | h9
    · simp -implicitDefEqProofs only [go_sem, evR, ints, rows, rat, rats, decide_eq_true (show (i : Int) < (p : Int) by omega)]
      have hb := pw_le (show i + 1 ≤ 8 by omega)
      have hb0 := pw_pos (p := i + 1)
      have hb8 : pw 8 = 167961600000000 := by decide
      have e : pw i * 60 = pw (i + 1) := by rw [pw_succ, Int.mul_comm]
      refine hn _ (i + 1) (Weak.of _ [] [] (by simp) (by simp) ?_ trivial) (by omega) (by omega)
      simp -implicitDefEqProofs only [ints, rows, Nat.reduceBEq, wkR, Nat.reduceEqDiff, ↓reduceIte, wrR, next64 h9 (by omega), e, wrap64 (n := pw (i + 1)) (by omega) (by omega)]
    · simp -implicitDefEqProofs only [go_sem, evR, ints, rows, rat, rats, decide_eq_false (show ¬ (i : Int) < (p : Int) by omega)]
      refine he _ _ ?_
      simp -implicitDefEqProofs only [go_sem, evR, ints, rows, rat, rats]
      rw [show i = p by omega]
theorem spec_l23Power_ok (p : Nat) (hp : p ≤ 8) : Pure Try.prog 157 [.i p] (.i (pw p)) := by
  refine fun_spec_l23Power (by simp) ?_
  simp -implicitDefEqProofs only [go_sem, evR, ints, rows, rat, rats, c_spec_l23Power]
  refine SemC.loopR (σ := Nat) (fun i => St.of [(0, .t (.i ((p - i : Nat) : Int))), (3, .t (.i (pw i)))] []) (fun i => i ≤ p) (fun i => p - i) 0 (Weak.of _ [] [] (by simp) (by simp) ?_ trivial) (by omega) fun i hi R hn hr he => ?_
  · simp -implicitDefEqProofs only [ints, rows, Nat.reduceBEq, wkR, Nat.reduceEqDiff, ↓reduceIte, wrR, show pw 0 = 1 from rfl, Nat.sub_zero]
  · rcases Nat.lt_or_ge i p with h9 | h9
    · simp -implicitDefEqProofs only [go_sem, evR, ints, rows, rat, rats, decide_eq_true (show ((p - i : Nat) : Int) > 0 by omega)]
      have hb := pw_le (show i + 1 ≤ 8 by omega)
      have hb0 := pw_pos (p := i + 1)
      have hb8 : pw 8 = 167961600000000 := by decide
      have e : pw i * 60 = pw (i + 1) := by rw [pw_succ, Int.mul_comm]
      refine hn _ (i + 1) (Weak.of _ [] [] (by simp) (by simp) ?_ trivial) (by omega) (by omega)
      simp -implicitDefEqProofs only [ints, rows, Nat.reduceBEq, wkR, Nat.reduceEqDiff, ↓reduceIte, wrR, e, wrap64 (n := pw (i + 1)) (by omega) (by omega), wrap64 (n := ((p - (i + 1) : Nat) : Int)) (by omega) (by omega), show ((p - i : Nat) : Int) - 1 = ((p - (i + 1) : Nat) : Int) by omega]
    · simp -implicitDefEqProofs only [go_sem, evR, ints, rows, rat, rats, decide_eq_false (show ¬ ((p - i : Nat) : Int) > 0 by omega)]
      refine he _ _ ?_
      simp -implicitDefEqProofs only [go_sem, evR, ints, rows, rat, rats]
      rw [show i = p by omega]
theorem tot_t {f : FuncId} {g : Gm} {n : Int} (h : Pure Try.prog f [gameT g] (.i n)) : Pure Try.prog f [.agg [.sh 5 (chunk nodeC g.nd), .sh 1 (g.w.map ints), .sh 1 (g.v.map ints)]] (.i n) := h
theorem dep_t {f : FuncId} {l : List Nd} {i n : Int} (h : Pure Try.prog f [treeT l, .i i] (.i n)) : Pure Try.prog f [.agg [.sh 5 (chunk nodeC l)], .i i] (.i n) := h
theorem game_unit {g : Gm} (hg : isGameB g = true) : smallW g.w ∧ dep g.nd g.nd.length 0 = (dpt g : Nat) ∧ dpt g ≤ 5 ∧ 0 ≤ totW g.w ∧ totW g.w ≤ 324 ∧ 1 ≤ pw (dpt g) ∧ pw (dpt g) ≤ 777600000 := by
  obtain ⟨p1, p2, p3, p4, p5⟩ := isGameB_parts hg
  obtain ⟨t1, t2, t3, t4⟩ := isTreeB_spec p1
  have hs := smallW_of p3 p2.2
  have hd0 := dep_nonneg (l := g.nd) g.nd.length 0
  have hd : dpt g ≤ 5 := by unfold dpt; omega
  have hb := totW_bound hs g.w.length
  rw [List.take_length] at hb
  have h1 := pw_le hd
  have h2 := pw_pos (p := dpt g)
  have h5 : pw 5 = 777600000 := by decide
  exact ⟨hs, by unfold dpt; omega, hd, hb.1, hb.2, by omega, by omega⟩
theorem unit_bound {g : Gm} (hg : isGameB g = true) : 0 ≤ unit g ∧ unit g ≤ 251942400000 := by
  obtain ⟨h1, h2, h3, h4, h5, h6, h7⟩ := game_unit hg
  refine ⟨Int.mul_nonneg h4 (by omega), ?_⟩
  have := Int.mul_le_mul h5 h7 (by omega) (by omega : (0 : Int) ≤ 324)
  unfold unit; omega
set_option maxRecDepth 20000 in
theorem spec_l23Unit_ok (g : Gm) (hg : isGameB g = true) : Pure Try.prog 134 [gameT g] (.i (unit g)) := by
  obtain ⟨p1, p2, p3, p4, p5⟩ := isGameB_parts hg
  obtain ⟨t1, t2, t3, t4⟩ := isTreeB_spec p1
  obtain ⟨h1, h2, h3, h4, h5, h6, h7⟩ := game_unit hg
  have hub := unit_bound hg
  have hdep := dep_t (spec_l20Depth_ok t2 (by omega) g.nd.length 0 (by omega) (by omega) (by omega))
  rw [h2] at hdep
  refine fun_spec_l23Unit (by simp) ?_
  simp -implicitDefEqProofs only [go_sem, evR, ints, rows, rat, rats, c_spec_l23Unit, gameT, nodes]
  refine CallV.pure (tot_t (spec_l21Total_ok g h1)) [] rfl Try.call191 (fun e R' hR => ?_) (by first | trivial | simp [T.noSh, T.noShL, rat]) (fun _ => rfl) ?_
  · simp -implicitDefEqProofs only [agR, Nat.reduceLeDiff, Nat.reduceSub, vaR, go_sem, ints, rows, rat, rats, ratsO, rtR, intsO, rowsO]
  simp -implicitDefEqProofs only [go_sem, evR, ints, rows, rat, rats]
  refine CallV.pure hdep [] rfl Try.call158 (fun e R' hR => ?_) (by first | trivial | simp [T.noSh, T.noShL, rat]) (fun _ => rfl) ?_
  · simp -implicitDefEqProofs only [agR, Nat.reduceLeDiff, Nat.reduceSub, vaR, go_sem, ints, rows, rat, rats, ratsO, rtR, intsO, rowsO]
  simp -implicitDefEqProofs only [go_sem, evR, ints, rows, rat, rats]
  refine CallV.pure (spec_l23Power_ok (dpt g) (by omega)) [] rfl Try.call157 (fun e R' hR => ?_) (by first | trivial | simp [T.noSh, T.noShL, rat]) (fun _ => rfl) ?_
  · simp -implicitDefEqProofs only [agR, Nat.reduceLeDiff, Nat.reduceSub, vaR, go_sem, ints, rows, rat, rats, ratsO, rtR, intsO, rowsO]
  simp -implicitDefEqProofs only [go_sem, evR, ints, rows, rat, rats]
  rw [wrap64 (n := totW g.w * pw (dpt g)) (by unfold unit at hub; omega) (by unfold unit at hub; omega)]; rfl
theorem idxs_before {l : List Nd} {pl : Int} {i n : Nat} (hi : i < n) (hp : (l.getD i nd0).p = pl) {j : Nat} {y : Int} (hj : j ≤ (idxs l pl i).length) (hy : (idxs l pl n)[j]? = some y) : (y = i ↔ j = (idxs l pl i).length) := by
  obtain ⟨rest, e⟩ := idxs_split l pl hp n hi
  rw [e] at hy
  rcases Nat.lt_or_ge j (idxs l pl i).length with h | h
  · rw [List.getElem?_append_left h] at hy
    obtain ⟨k, rfl, hk, _⟩ := idxs_mem (List.mem_of_getElem? hy)
    constructor
    · intro h1; omega
    · intro h1; omega
  · rw [List.getElem?_append_right h, show j - (idxs l pl i).length = 0 by omega] at hy
    have : (i : Int) = y := by simpa using hy
    constructor
    · intro; omega
    · intro; omega
theorem idxs_lt {l : List Nd} {pl : Int} {i n : Nat} (hi : i < n) (hp : (l.getD i nd0).p = pl) : (idxs l pl i).length < (idxs l pl n).length := by
  obtain ⟨rest, e⟩ := idxs_split l pl hp n hi
  rw [e]; simp
set_option maxRecDepth 20000 in
theorem spec_l23Set_ok (g : Gm) (hg : isGameB g = true) (pl : Int) (i c : Nat) (hi : i < g.nd.length) (hp : (g.nd.getD i nd0).p = pl) (hc : c < g.w.length) : Pure Try.prog 221 [gameT g, .i pl, .i i, .i c] (.i (setI g pl i c)) := by
  obtain ⟨p1, p2, p3, p4, p5⟩ := isGameB_parts hg
  obtain ⟨t1, t2, t3, t4⟩ := isTreeB_spec p1
  have hlt := idxs_lt hi hp
  have hbf : ∀ {j : Nat} {y : Int}, j ≤ (idxs g.nd pl i).length → (idxs g.nd pl g.nd.length)[j]? = some y → (y = i ↔ j = (idxs g.nd pl i).length) := fun hj hy => idxs_before hi hp hj hy
  have hlen := idxs_length g.nd pl g.nd.length
  refine fun_spec_l23Set (by simp) ?_
  simp -implicitDefEqProofs only [go_sem, evR, ints, rows, rat, rats, c_spec_l23Set, gameT, nodes]
  refine CallW.res (spec_l20Of_t g.nd pl (by omega)) [] rfl Try.call220 ?_ (.inl rfl) ?_
  · simp -implicitDefEqProofs only [agR, Nat.reduceLeDiff, Nat.reduceSub, vaR, go_sem, ints, rows, rat, rats, ratsO, rtR, intsO, rowsO]
  simp -implicitDefEqProofs only [clR, Nat.reduceLeDiff, go_sem, evR, rat, intsO]
  unfold setI
  generalize idxs g.nd pl g.nd.length = ns at hlt hbf hlen ⊢
  generalize hm : (idxs g.nd pl i).length = m at hlt hbf ⊢
  refine SemC.loopR (σ := Nat) (fun j => St.of [(2, .t (.i i)), (3, .t (.i c)), (4, .own 4), (9, .own 14), (10, .t (.i j))] [(4, .box [nodes g.nd, rows g.w, rows g.v]), (14, intsO ns)]) (fun j => j ≤ m) (fun j => m - j) 0 (Weak.of _ _ [some 4, some 14] (by simp) (by simp) ?_ ?_) (by omega) fun j hj R hn hr he => ?_
  · simp -implicitDefEqProofs only [ints, rows, Nat.reduceBEq, wkR, Nat.reduceEqDiff, ↓reduceIte, wrR, nodes]
  · exact ⟨⟨_, rfl, .refl _⟩, rfl, ⟨_, rfl, .refl _⟩, rfl, trivial⟩
  · obtain ⟨y, hy⟩ : ∃ y, ns[j]? = some y := ⟨_, List.getElem?_eq_getElem (by omega)⟩
    have hiff := hbf hj hy
    have hmul : j * g.w.length ≤ 60 * 6 := Nat.mul_le_mul (by omega) p2.2
    have hcast : (j : Int) * (g.w.length : Int) = ((j * g.w.length : Nat) : Int) := by rw [Int.natCast_mul]
    simp -implicitDefEqProofs only [go_sem, evR, ints, rows, rat, rats, nodes, intsO, hy, decide_eq_true (show (j : Int) < (ns.length : Int) by omega)]
    refine ⟨by omega, by omega, by omega, fun h1 => hr _ ?_, fun h1 => hn _ (j + 1) (Weak.of _ _ [some 4, some 14] (by simp) (by simp) ?_ ?_) ?_ ?_⟩
    · have h1 : j = m := hiff.1 (by simpa using h1)
      simp -implicitDefEqProofs only [go_sem, evR, ints, rows, rat, rats, hcast, wrap64 (n := ((j * g.w.length : Nat) : Int)) (by omega) (by omega), wrap64 (n := ((j * g.w.length : Nat) : Int) + (c : Int)) (by omega) (by omega)]
      rw [h1]; rfl
    · simp -implicitDefEqProofs only [ints, rows, Nat.reduceBEq, wkR, Nat.reduceEqDiff, ↓reduceIte, wrR, nodes, intsO, next64 (show j < ns.length by omega) (by omega)]
    · exact ⟨⟨_, rfl, .refl _⟩, rfl, ⟨_, rfl, .refl _⟩, rfl, trivial⟩
    · have h1 : ¬ j = m := fun h => by have := hiff.2 h; simp at h1; omega
      omega
    · have h1 : ¬ j = m := fun h => by have := hiff.2 h; simp at h1; omega
      omega
end
end Go.Ab

/- Contracts: HalvedWeights. -/
set_option linter.unusedSimpArgs false
set_option linter.unusedVariables false
namespace Go.Ab
open Go.Proofs

def mx0 (l : List Int) : Int := l.foldl max 0
def half (l : List Int) : List Int := l.map fun x => x / 2
def hvd : Nat → List Int → List Int
  | 0, l => l
  | f + 1, l => if mx0 l ≤ 1000000000 then l else hvd f (half l)

def W (f : Nat) : Int := ((2 ^ (29 + f) : Nat) : Int)
def hw (l : List Int) : List Int × Int := if 1 ≤ l.length ∧ l.length ≤ 4 ∧ ∀ x ∈ l, 0 ≤ x then (hvd 34 l, 0) else ([], 2)
end Go.Ab


/- The law FnExactSaddlePoint, as a contract. -/
set_option linter.unusedSimpArgs false
set_option linter.unusedVariables false
namespace Go.Ab
open Go.Proofs

end Go.Ab

/- Contracts: marks of lists of rows. -/
set_option linter.unusedSimpArgs false
set_option linter.unusedVariables false
namespace Go.Ab
open Go.Proofs

def tot : List (List Int) → Nat
  | [] => 0
  | r :: m => r.length + tot m
theorem tot_mem : ∀ {m : List (List Int)} {r : List Int}, r ∈ m → r.length ≤ tot m
  | r' :: m, r, h => by
    rcases List.mem_cons.1 h with rfl | h
    · simp [tot]
    · have := tot_mem h; simp only [tot]; omega

end Go.Ab

/- Contracts: games, strategies and claims as the laws copy, measure and compare them. -/
set_option linter.unusedSimpArgs false
set_option linter.unusedVariables false
namespace Go.Ab
open Go.Proofs

def gameO (g : Gm) : T := .agg [nodesO g.nd, rowsO g.w, rowsO g.v]
def stratO (s : Int × List (List Int)) : T := .agg [.i s.1, rowsO s.2]
theorem nodesO_toSh (l : List Nd) : (nodesO l).toSh = nodes l := by
  show T.sh 5 (T.toShL (chunk nodeCO l)) = T.sh 5 (chunk nodeC l)
  congr 1
  induction l with
  | nil => rfl
  | cons x l ih =>
    rw [chunk_cons, chunk_cons, T.toShL_eq_map, List.map_append, ← T.toShL_eq_map (chunk nodeCO l), ih]
    congr 1
    show [T.i x.p, .i x.a, .i x.b, .i x.f, (intsO x.ch).toSh] = _
    rw [intsO_toSh]; rfl
theorem toShL_nodes (l : List Nd) : T.toShL (chunk nodeCO l) = chunk nodeC l := by
  have := nodesO_toSh l
  simpa [nodesO, nodes, T.toSh] using this
attribute [go_sem] toShL_nodes
section
attribute [-go_sem] load1C load1V fldC lenC idxC loadNV
end
end Go.Ab

/- The bridge, part 5: bytes. -/
set_option linter.unusedSimpArgs false
set_option linter.unusedVariables false
namespace Go.Ab

def bytes (cs : List Int) : T := .sh 1 (cs.map fun x => .v (.int .u8 x))
def bytesOK (cs : List Int) : Prop := ∀ c ∈ cs, 0 ≤ c ∧ c ≤ 255
def tyU8s : Ty := .sl 1 (.int .u8)
theorem wf8 {n : Int} (h : (Lit.int .u8 n).wf = true) : 0 ≤ n ∧ n ≤ 255 := by
  simp [Lit.wf, IntKind.min, IntKind.max, IntKind.signed, IntKind.bits] at h
  omega
theorem flat_bytes : ∀ {xs : List (List T)}, (∀ x ∈ xs, x.length = 1 ∧ (Ty.int .u8).wt x) → ∃ l : List Int, xs.flatten = (l.map fun x => T.v (.int .u8 x)) ∧ l.length = xs.length ∧ bytesOK l
  | [], _ => ⟨[], rfl, rfl, fun x hx => by simp at hx⟩
  | x :: xs, h => by
    obtain ⟨l, hl, hlen, hf⟩ := flat_bytes (xs := xs) fun y hy => h y (by simp [hy])
    obtain ⟨_, n, rfl, hw⟩ := h x (by simp)
    refine ⟨n :: l, by simp [hl], by simp [hlen], fun y hy => ?_⟩
    rcases List.mem_cons.1 hy with rfl | hy
    · exact wf8 hw
    · exact hf y hy
theorem wt_bytes {x : T} (h : tyU8s.wt [x]) : ∃ l : List Int, x = bytes l ∧ l.length ≤ 9223372036854775807 ∧ bytesOK l := by
  obtain ⟨xs, hx, hlen, hall⟩ := h
  obtain ⟨l, hl, hll, hf⟩ := flat_bytes hall
  simp only [List.cons.injEq, and_true] at hx
  exact ⟨l, by rw [hx, hl]; rfl, by rw [hll]; exact hlen, hf⟩
end Go.Ab

/- Contracts: the source of drawn numbers. -/
set_option linter.unusedSimpArgs false
set_option linter.unusedVariables false
namespace Go.Ab
open Go.Proofs

def srcT (cs : List Int) (a : Nat × Int) : T := .box [bytes cs, .i a.1, .i a.2]
def seedOK (a : Nat × Int) : Prop := 0 ≤ a.2 ∧ a.2 < 2147483647 ∧ a.1 ≤ 1000000000000
def fromS (l : List Int) : Int := l.foldl (fun s c => (s * 61 + c) % 2147483647) 45007
theorem fromS_snoc (l : List Int) (c : Int) : fromS (l ++ [c]) = (fromS l * 61 + c) % 2147483647 := by simp [fromS, List.foldl_append]
theorem fromS_bound (l : List Int) : 0 ≤ fromS l ∧ fromS l < 2147483647 := by
  rcases List.eq_nil_or_concat l with rfl | ⟨l, c, rfl⟩
  · decide
  · rw [List.concat_eq_append, fromS_snoc]
    omega
def nextS (cs : List Int) (a : Nat × Int) (n : Int) : Int × (Nat × Int) :=
  if n ≤ 1 then (0, a) else
  let s := (a.2 * 48271 + 29) % 2147483647
  if a.1 < cs.length then ((if n ≤ 256 ∧ (a.1 + 1) % 2 = 0 then cs.getD a.1 0 else s / 31 + cs.getD a.1 0) % n, (a.1 + 1, s)) else ((s / 31) % n, (a.1, s))
theorem nextS_bound {cs : List Int} {a : Nat × Int} {n : Int} (hn : 1 ≤ n) : 0 ≤ (nextS cs a n).1 ∧ (nextS cs a n).1 < n := by
  unfold nextS
  split
  · omega
  · split
    · exact ⟨Int.emod_nonneg _ (by omega), Int.emod_lt_of_pos _ (by omega)⟩
    · exact ⟨Int.emod_nonneg _ (by omega), Int.emod_lt_of_pos _ (by omega)⟩

theorem spec_l01From_ok (cs : List Int) (hc : bytesOK cs) (hl : cs.length ≤ 1000000000000) : Fun Try.prog 119 [] [.t (bytes cs)] fun o r => o = [] ∧ r = srcT cs (0, fromS (cs.take 64)) := by
  refine fun_spec_l01From (by simp) ?_
  simp -implicitDefEqProofs only [go_sem, evR, ints, rows, rat, rats, c_spec_l01From, bytes]
  refine SemC.loopR (σ := Nat) (fun i => St.of [(0, .t (bytes cs)), (3, .own 7), (4, .t (.i i))] [(7, .box [bytes cs, .i 0, .i (fromS (cs.take i))])]) (fun i => i ≤ 64 ∧ i ≤ cs.length) (fun i => 64 - i) 0 (Weak.of _ _ [some 7] (by simp) (by simp) ?_ ?_) ⟨by omega, by omega⟩ fun i hi R hn hr he => ?_
  · simp -implicitDefEqProofs only [ints, rows, Nat.reduceBEq, wkR, Nat.reduceEqDiff, ↓reduceIte, wrR, bytes]
  · exact ⟨⟨_, rfl, .refl _⟩, rfl, trivial⟩
  · simp -implicitDefEqProofs only [go_sem, evR, ints, rows, rat, rats, bytes]
    refine ⟨fun h1 => ⟨fun h2 => ⟨by omega, by omega, by omega, fun c hcc => ⟨by decide, ?_⟩⟩, fun h2 => he _ _ ?_⟩, fun h1 => he _ _ ?_⟩
    · have hb := hc c (List.mem_of_getElem? hcc)
      have hf := fromS_bound (cs.take i)
      have e := fromS_snoc (cs.take i) c
      rw [← take_snoc hcc] at e
      have hw : (IntKind.i64.wrap (IntKind.i64.wrap (fromS (cs.take i) * 61) + IntKind.i64.wrap c)).tmod 2147483647 = fromS (cs.take (i + 1)) := by
        rw [wrap64 (n := c) (by omega) (by omega), wrap64 (n := fromS (cs.take i) * 61) (by omega) (by omega), wrap64 (n := fromS (cs.take i) * 61 + c) (by omega) (by omega), Int.tmod_eq_emod_of_nonneg (by omega), e]
      rw [hw]
      refine hn _ (i + 1) (Weak.of _ _ [some 7] (by simp) (by simp) ?_ ?_) ⟨by omega, by omega⟩ (by omega)
      · simp -implicitDefEqProofs only [ints, rows, Nat.reduceBEq, wkR, Nat.reduceEqDiff, ↓reduceIte, wrR, bytes, next64 (by omega : i < cs.length) (by omega)]
      · exact ⟨⟨_, rfl, .refl _⟩, rfl, trivial⟩
    · simp -implicitDefEqProofs only [go_sem, evR, ints, rows, rat, rats, srcT, bytes]
      rw [show i = 64 by omega]; rfl
    · simp -implicitDefEqProofs only [go_sem, evR, ints, rows, rat, rats, srcT, bytes]
      have e : cs.take i = cs.take 64 := by rw [List.take_of_length_le (by omega), List.take_of_length_le (by omega)]
      rw [e]; rfl
set_option maxRecDepth 10000 in
theorem spec_l01Next_ok (cs : List Int) (hc : bytesOK cs) (hl : cs.length ≤ 100000000000) (a : Nat × Int) (ha : seedOK a) (n : Int) (hn : n ≤ 1000000000000) : Fun Try.prog 126 [srcT cs a] [.own 1000000000, .t (.i n)] fun o r => o = [srcT cs (nextS cs a n).2] ∧ r = .i (nextS cs a n).1 := by
  refine fun_spec_l01Next (by simp) ?_
  simp -implicitDefEqProofs only [go_sem, evR, ints, rows, rat, rats, c_spec_l01Next, srcT, bytes]
  obtain ⟨a1, a2⟩ := a
  obtain ⟨h1, h2, h3⟩ := ha
  simp only [] at h1 h2 h3
  have hs : (IntKind.i64.wrap (IntKind.i64.wrap (a2 * 48271) + 29)).tmod 2147483647 = (a2 * 48271 + 29) % 2147483647 := by
    rw [wrap64 (n := a2 * 48271) (by omega) (by omega), wrap64 (n := a2 * 48271 + 29) (by omega) (by omega), Int.tmod_eq_emod_of_nonneg (by omega)]
  have hs1 := Int.emod_nonneg (a2 * 48271 + 29) (show (2147483647 : Int) ≠ 0 by decide)
  have hs2 := Int.emod_lt_of_pos (a2 * 48271 + 29) (show (0 : Int) < 2147483647 by decide)
  have hw1 : IntKind.i64.wrap ((a1 : Int) + 1) = ((a1 + 1 : Nat) : Int) := by rw [wrap64 (by omega) (by omega)]; omega
  have hw2 : IntKind.i64.wrap (((a1 + 1 : Nat) : Int) - 1) = (a1 : Int) := by rw [wrap64 (by omega) (by omega)]; omega
  simp only [hs, hw1, hw2, Int.toNat_natCast]
  have hnx : nextS cs (a1, a2) n = if n ≤ 1 then (0, (a1, a2)) else if a1 < cs.length then ((if n ≤ 256 ∧ (a1 + 1) % 2 = 0 then cs.getD a1 0 else (a2 * 48271 + 29) % 2147483647 / 31 + cs.getD a1 0) % n, (a1 + 1, (a2 * 48271 + 29) % 2147483647)) else (((a2 * 48271 + 29) % 2147483647 / 31) % n, (a1, (a2 * 48271 + 29) % 2147483647)) := rfl
  generalize (a2 * 48271 + 29) % 2147483647 = s at hs1 hs2 hnx ⊢
  have hq : IntKind.i64.wrap (s.tdiv 31) = s / 31 := by rw [Int.tdiv_eq_ediv_of_nonneg hs1, wrap64 (by omega) (by omega)]
  have hq' : s.tdiv 31 = s / 31 := Int.tdiv_eq_ediv_of_nonneg hs1
  have hqs : IntKind.i64.wrap (s / 31) = s / 31 := wrap64 (by omega) (by omega)
  rw [hnx]
  by_cases hn1 : n ≤ 1
  · simp only [if_pos hn1]
    exact ⟨fun _ => by simp, fun h => absurd hn1 h⟩
  · simp only [if_neg hn1]
    refine ⟨fun h => absurd h hn1, fun _ => ⟨by decide, by decide, fun hl1 => ?_, fun hl1 => ?_⟩⟩
    · have hl2 : a1 < cs.length := by omega
      obtain ⟨c, hcc⟩ : ∃ c, cs[a1]? = some c := ⟨_, List.getElem?_eq_getElem hl2⟩
      have hcb := hc c (List.mem_of_getElem? hcc)
      have hg : cs.getD a1 0 = c := by rw [List.getD_eq_getElem?_getD, hcc]; rfl
      have hwc : IntKind.i64.wrap c = c := wrap64 (by omega) (by omega)
      simp only [if_pos hl2, hcc, hg, Option.some.injEq, forall_eq', hwc]
      have hws : IntKind.i64.wrap (s / 31 + c) = s / 31 + c := wrap64 (by omega) (by omega)
      simp only [hq', hqs, hws]
      refine ⟨by omega, by omega, by omega, fun h256 => ⟨by decide, fun he => ⟨by omega, by omega, by omega, by omega, by first | trivial | rfl, ?_⟩, fun he => ⟨by omega, by first | trivial | rfl, ?_⟩⟩, fun h256 => ⟨by omega, by first | trivial | rfl, ?_⟩⟩
      · rw [beq_iff_eq, Int.tmod_eq_emod_of_nonneg (by omega)] at he
        rw [if_pos ⟨h256, by omega⟩, Int.tmod_eq_emod_of_nonneg (by omega)]
      · rw [beq_eq_false_iff_ne, Int.tmod_eq_emod_of_nonneg (by omega)] at he
        rw [if_neg (by omega), Int.tmod_eq_emod_of_nonneg (by omega)]
      · rw [if_neg (by omega), Int.tmod_eq_emod_of_nonneg (by omega)]
    · have hl2 : ¬ a1 < cs.length := by omega
      simp only [if_neg hl2, hq', hqs]
      refine ⟨by omega, by first | trivial | rfl, ?_⟩
      rw [Int.tmod_eq_emod_of_nonneg (by omega)]
end Go.Ab

/- Contracts: picks. -/
set_option linter.unusedSimpArgs false
set_option linter.unusedVariables false
namespace Go.Ab
open Go.Proofs

theorem nextS_seed {cs : List Int} {a : Nat × Int} (hl : cs.length ≤ 100000000000) (ha : seedOK a) (n : Int) : seedOK (nextS cs a n).2 := by
  obtain ⟨h1, h2, h3⟩ := ha
  have hs1 := Int.emod_nonneg (a.2 * 48271 + 29) (show (2147483647 : Int) ≠ 0 by decide)
  have hs2 := Int.emod_lt_of_pos (a.2 * 48271 + 29) (show (0 : Int) < 2147483647 by decide)
  unfold nextS
  split
  · exact ⟨h1, h2, h3⟩
  · split
    · exact ⟨hs1, hs2, by show a.1 + 1 ≤ _; omega⟩
    · exact ⟨hs1, hs2, h3⟩
theorem seed_from (l : List Int) : seedOK (0, fromS l) := ⟨(fromS_bound l).1, (fromS_bound l).2, Nat.zero_le _⟩
def pickS (cs : List Int) (a : Nat × Int) (l : List Int) : Int × (Nat × Int) := (l.getD (nextS cs a l.length).1.toNat 0, (nextS cs a l.length).2)
theorem pickS_mem {cs : List Int} {a : Nat × Int} {l : List Int} (h : 1 ≤ l.length) : (pickS cs a l).1 ∈ l := by
  have hb := nextS_bound (cs := cs) (a := a) (show (1 : Int) ≤ l.length by omega)
  unfold pickS
  rw [List.getD_eq_getElem?_getD, List.getElem?_eq_getElem (show (nextS cs a l.length).1.toNat < l.length by omega)]
  exact List.getElem_mem _
theorem next_box (cs : List Int) (hc : bytesOK cs) (hl : cs.length ≤ 100000000000) (a : Nat × Int) (ha : seedOK a) (n : Int) (hn : n ≤ 1000000000000) : Fun Try.prog 126 [.box [bytes cs, .i a.1, .i a.2]] [.own 1000000000, .t (.i n)] fun o r => o = [.box [bytes cs, .i (nextS cs a n).2.1, .i (nextS cs a n).2.2]] ∧ r = .i (nextS cs a n).1 := spec_l01Next_ok cs hc hl a ha n hn
theorem pickS_seed {cs : List Int} {a : Nat × Int} (hl : cs.length ≤ 100000000000) (ha : seedOK a) (l : List Int) : seedOK (pickS cs a l).2 := nextS_seed hl ha _
theorem pick_own (cs : List Int) (hc : bytesOK cs) (hl : cs.length ≤ 100000000000) (a : Nat × Int) (ha : seedOK a) (l : List Int) (h1 : 1 ≤ l.length) (h2 : l.length ≤ 1000000) : Fun Try.prog 147 [.box [bytes cs, .i a.1, .i a.2], intsO l] [.own 1000000000, .own 1000000001] fun o r => o = [.box [bytes cs, .i (pickS cs a l).2.1, .i (pickS cs a l).2.2], intsO l] ∧ r = .i (pickS cs a l).1 := by
  have hb := nextS_bound (cs := cs) (a := a) (show (1 : Int) ≤ l.length by omega)
  obtain ⟨x, hx⟩ : ∃ x, l[(nextS cs a l.length).1.toNat]? = some x := ⟨_, List.getElem?_eq_getElem (show (nextS cs a l.length).1.toNat < l.length by omega)⟩
  have hg : (pickS cs a l).1 = x := by rw [pickS, List.getD_eq_getElem?_getD, hx]; rfl
  refine fun_spec_l01Pick (by simp) ?_
  simp -implicitDefEqProofs only [go_sem, evR, ints, rows, rat, rats, c_spec_l01Pick, intsO]
  refine CallW.ref (next_box cs hc hl a ha l.length (by omega)) [1000000000] [] rfl Try.call126 (by simp) ?_ (by simp) ?_ (.inl rfl) ?_
  · simp -implicitDefEqProofs only [srR, Nat.reduceEqDiff, ↓reduceIte, ints, rows, intsO, rowsO]
  · simp -implicitDefEqProofs only [agR, Nat.reduceLeDiff, Nat.reduceSub, vaR, go_sem, ints, rows, rat, rats, ratsO, rtR, intsO, rowsO]
  simp -implicitDefEqProofs only [clR, Nat.reduceLeDiff, go_sem, evR, rat]
  refine ⟨by omega, by omega, by omega, fun y hy => ?_⟩
  rw [hx] at hy; cases hy
  exact ⟨rfl, by rw [hg]⟩
end Go.Ab

/- Contracts: the shape of drawn trees. -/
set_option linter.unusedSimpArgs false
set_option linter.unusedVariables false
namespace Go.Ab
open Go.Proofs
def LeL (l l' : List T) : Prop := l.length = l'.length ∧ ∀ i (h : i < l.length) (h' : i < l'.length), Le l[i] l'[i]
theorem LeL.refl (l : List T) : LeL l l := ⟨rfl, fun _ _ _ => .refl _⟩
theorem LeL.cons {a a' : T} {l l' : List T} (h : Le a a') (h' : LeL l l') : LeL (a :: l) (a' :: l') := by
  refine ⟨by simp [h'.1], fun i q q' => ?_⟩
  cases i with
  | zero => exact h
  | succ i => simpa using h'.2 i (by simpa using q) (by simpa using q')
theorem LeL.append : ∀ {l l' m m' : List T}, LeL l l' → LeL m m' → LeL (l ++ m) (l' ++ m')
  | [], [], _, _, _, h => h
  | [], _ :: _, _, _, h, _ => absurd h.1 (by simp)
  | _ :: _, [], _, _, h, _ => absurd h.1 (by simp)
  | a :: l, a' :: l', m, m', h, h2 => LeL.cons (h.2 0 (by simp) (by simp)) (LeL.append ⟨by have := h.1; simpa using this, fun i q q' => by have := h.2 (i + 1) (by simpa using q) (by simpa using q'); simpa using this⟩ h2)
theorem LeL.arr {s : Nat} {l l' : List T} (h : LeL l l') : Le (.arr s l) (.arr s l') := .arr s h.1 h.2
def smallN (b : Nat) (l : List Nd) : Prop := l.length ≤ b ∧ ∀ x ∈ l, x.ch.length ≤ 8
theorem chunk_ch : ∀ (l : List Nd) (i : Nat) (x : Nd) (ch : List Int), l[i]? = some x → (chunk nodeCO l).set (i * 5 + 4) (intsO ch) = chunk nodeCO (l.set i ⟨x.p, x.a, x.b, x.f, ch⟩)
  | [], i, x, ch, h => by simp at h
  | a :: l, 0, x, ch, h => by
    simp at h; subst h
    rw [chunk_cons, List.set_cons_zero, chunk_cons]; rfl
  | a :: l, i + 1, x, ch, h => by
    rw [chunk_cons, List.set_append_right _ _ (by rw [nodeCO_len]; omega), nodeCO_len, show (i + 1) * 5 + 4 - 5 = i * 5 + 4 by omega, chunk_ch l i x ch (by simpa using h), List.set_cons_succ, chunk_cons]
theorem smallN_set {b : Nat} {l : List Nd} (h : smallN b l) (i : Nat) (x : Nd) (hx : x.ch.length ≤ 8) : smallN b (l.set i x) := by
  refine ⟨by rw [List.length_set]; exact h.1, fun y hy => ?_⟩
  rcases List.mem_or_eq_of_mem_set hy with hy | rfl
  · exact h.2 y hy
  · exact hx
section
attribute [-go_sem] load1C load1V fldC lenC idxC loadNV
set_option maxRecDepth 20000 in
theorem spec_l20Grow_L (bet : Int) (hb : 1 ≤ bet ∧ bet ≤ 1000) (B : Nat) (hB : B ≤ 1000) (M : Int) (hM : M ≤ 10000) : ∀ (r : Nat), r ≤ 2 → ∀ (l : List Nd) (pl p0 p1 : Int) (ck : Bool), smallN B l → l.length + 3 * (r + 1) ≤ B → (pl = 0 ∧ p0 < p1 ∨ pl = 1 ∧ p1 < p0) → 0 ≤ p0 → 0 ≤ p1 → p0 + 1000 * (r : Int) ≤ M → p1 + 1000 * (r : Int) ≤ M →
    ∃ l' : List Nd, smallN (l.length + 3 * (r + 1)) l' ∧ l.length < l'.length ∧ Fun Try.prog 217 [nodesO l] [.own 1000000000, .t (.i pl), .t (.i p0), .t (.i p1), .t (.i bet), .t (.i r), .t (.b ck)] fun o res => o = [.any] ∧ res = nodesO l'
  | 0, hr, l, pl, p0, p1, ck, hl, hlB, hp, q0, q1, q2, q3 => by
    have hfin : ∀ (a b : Int) (ch : List Int), ch.length ≤ 8 → Fun Try.prog 217 [nodesO l] [.own 1000000000, .t (.i pl), .t (.i p0), .t (.i p1), .t (.i bet), .t (.i (0 : Nat)), .t (.b ck)] (fun o res => o = [.any] ∧ res = .arr 5 (chunk nodeCO l ++ [.i pl, .i p0, .i p1, .i (-1), intsO ch] ++ [.i 2, .i p0, .i p1, .i pl, .v (.slice none 0 0)] ++ [.i 2, .i a, .i b, .i (-1), .v (.slice none 0 0)])) →
        ∃ l' : List Nd, smallN (l.length + 3 * (0 + 1)) l' ∧ l.length < l'.length ∧ Fun Try.prog 217 [nodesO l] [.own 1000000000, .t (.i pl), .t (.i p0), .t (.i p1), .t (.i bet), .t (.i (0 : Nat)), .t (.b ck)] fun o res => o = [.any] ∧ res = nodesO l' := fun a b ch hch hF => by
      refine ⟨l ++ [⟨pl, p0, p1, -1, ch⟩, ⟨2, p0, p1, pl, []⟩, ⟨2, a, b, -1, []⟩], ⟨by simp, fun x hx => ?_⟩, by simp, Fun.le hF ?_⟩
      · simp only [List.mem_append, List.mem_cons, List.not_mem_nil, or_false] at hx
        rcases hx with hx | rfl | rfl | rfl
        · exact hl.2 x hx
        · exact hch
        · simp
        · simp
      · rintro o res ⟨rfl, rfl⟩
        refine ⟨_, ?_, rfl, rfl⟩
        rw [nodesO, chunk_append]
        refine LeL.arr ?_
        rw [List.append_assoc, List.append_assoc]
        refine LeL.append (.refl _) ?_
        exact LeL.cons (.refl _) (LeL.cons (.refl _) (LeL.cons (.refl _) (LeL.cons (.refl _) (LeL.cons (.refl _) (LeL.cons (.refl _) (LeL.cons (.refl _) (LeL.cons (.refl _) (LeL.cons (.refl _) (LeL.cons (.nilArr 1) (LeL.cons (.refl _) (LeL.cons (.refl _) (LeL.cons (.refl _) (LeL.cons (.refl _) (LeL.cons (.nilArr 1) (.refl _)))))))))))))))
    have hnl : (chunk nodeCO l).length / 5 = l.length := chunk_div nodeCO_len (by decide) l
    have hnl5 : (chunk nodeCO l).length = l.length * 5 := chunk_length nodeCO_len l
    have hl1 := hl.1
    have hset : ∀ (x y : List T) (c d : T) (z : List T), x.length = l.length * 5 → y.length = 4 → (x ++ (y ++ c :: z)).set (l.length * 5 + 4) d = x ++ (y ++ d :: z) := fun x y c d z h1 h2 => by
      rw [List.set_append_right _ _ (by omega), List.set_append_right _ _ (by omega), show l.length * 5 + 4 - x.length - y.length = 0 by omega, List.set_cons_zero]
    rcases hp with ⟨rfl, hp⟩ | ⟨rfl, hp⟩
    · refine hfin p1 p1 [((l.length * 5 + 5) / 5 : Nat), ((l.length * 5 + 5 + 5) / 5 : Nat)] (by simp) ?_
      refine fun_spec_l20Grow (by simp) ?_
      simp -implicitDefEqProofs only [go_sem, evR, ints, rows, rat, rats, c_spec_l20Grow, nodesO, hnl, hnl5, decide_eq_true hp, (show ((0 : Int) == 1) = false from rfl), (show (((0 : Nat) : Int) == 0) = true from rfl), List.length_append, List.length_cons, List.length_nil, Bool.false_eq_true, false_implies, forall_const, true_and]
      refine ⟨by omega, by omega, by omega, by omega, by omega, by omega, ?_⟩
      rw [show l.length * 5 / 5 * 5 + 4 = l.length * 5 + 4 by omega, List.append_assoc, List.append_assoc, List.append_assoc, List.append_assoc]
      congr 1
      exact hset (chunk nodeCO l) [T.i 0, T.i p0, T.i p1, T.i (-1)] _ _ _ hnl5 rfl
    · refine hfin p0 p0 [((l.length * 5 + 5) / 5 : Nat), ((l.length * 5 + 5 + 5) / 5 : Nat)] (by simp) ?_
      refine fun_spec_l20Grow (by simp) ?_
      simp -implicitDefEqProofs only [go_sem, evR, ints, rows, rat, rats, c_spec_l20Grow, nodesO, hnl, hnl5, decide_eq_true hp, (show ((1 : Int) == 1) = true from rfl), (show (((0 : Nat) : Int) == 0) = true from rfl), List.length_append, List.length_cons, List.length_nil, Bool.false_eq_true, false_implies, forall_const, true_and]
      refine ⟨by omega, by omega, by omega, by omega, by omega, by omega, ?_⟩
      rw [show l.length * 5 / 5 * 5 + 4 = l.length * 5 + 4 by omega, List.append_assoc, List.append_assoc, List.append_assoc, List.append_assoc]
      congr 1
      exact hset (chunk nodeCO l) [T.i 1, T.i p0, T.i p1, T.i (-1)] _ _ _ hnl5 rfl
  | r + 1, hr, l, pl, p0, p1, ck, hl, hlB, hp, q0, q1, q2, q3 => by
    have hnl : (chunk nodeCO l).length / 5 = l.length := chunk_div nodeCO_len (by decide) l
    have hnl5 : (chunk nodeCO l).length = l.length * 5 := chunk_length nodeCO_len l
    have hl1 := hl.1
    have hr0 : (((r + 1 : Nat) : Int) == 0) = false := by simp; omega
    rcases hp with ⟨rfl, hp⟩ | ⟨rfl, hp⟩
    · obtain ⟨l', hl2, hl3, hrec⟩ := spec_l20Grow_L bet hb B hB M hM r (by omega) (l ++ [⟨0, p0, p1, -1, []⟩, ⟨2, p0, p1, 0, []⟩, ⟨2, p1, p1, -1, []⟩]) 1 (p1 + bet) p1 false ⟨by simp; omega, fun x hx => by
        simp only [List.mem_append, List.mem_cons, List.not_mem_nil, or_false] at hx
        rcases hx with hx | rfl | rfl | rfl
        · exact hl.2 x hx
        all_goals simp⟩ (by simp; omega) (.inr ⟨rfl, by omega⟩) (by omega) q1 (by omega) (by omega)
      simp only [List.length_append, List.length_cons, List.length_nil] at hl2 hl3
      have hnl' : (chunk nodeCO l').length = l'.length * 5 := chunk_length nodeCO_len l'
      obtain ⟨z, hz⟩ : ∃ z, l'[l.length]? = some z := ⟨_, List.getElem?_eq_getElem (by omega)⟩
      refine ⟨l'.set l.length ⟨z.p, z.a, z.b, z.f, [((l.length * 5 + 5) / 5 : Nat), ((l.length * 5 + 5 + 5) / 5 : Nat), ((l.length * 5 + 5 + 5 + 5) / 5 : Nat)]⟩, smallN_set ⟨by have := hl2.1; omega, hl2.2⟩ _ _ (by simp), by rw [List.length_set]; omega, ?_⟩
      refine fun_spec_l20Grow (by simp) ?_
      simp -implicitDefEqProofs only [go_sem, evR, ints, rows, rat, rats, c_spec_l20Grow, nodesO, hnl, hnl5, decide_eq_true hp, (show ((0 : Int) == 1) = false from rfl), (show ((0 : Int) == 0) = true from rfl), hr0, List.length_append, List.length_cons, List.length_nil, Bool.false_eq_true, false_implies, forall_const, true_and]
      have hq : l.length * 5 / 5 = l.length := by omega
      have hw0 : IntKind.i64.wrap (1 - 0) = 1 := by decide
      have hw1 : IntKind.i64.wrap (p1 + bet) = p1 + bet := wrap64 (by omega) (by omega)
      have hw2 : IntKind.i64.wrap (((r + 1 : Nat) : Int) - 1) = (r : Int) := by rw [wrap64 (by omega) (by omega)]; omega
      refine ⟨by omega, by omega, by omega, ?_⟩
      simp only [hw0, hw1, hw2, hq]
      refine CallW.weak (Weak.le 66 (t' := nodesO (l ++ [⟨0, p0, p1, -1, []⟩, ⟨2, p0, p1, 0, []⟩, ⟨2, p1, p1, -1, []⟩])) rfl ?_ rfl) ?_
      · rw [nodesO, chunk_append, List.append_assoc, List.append_assoc]
        refine LeL.arr (LeL.append (.refl _) ?_)
        exact LeL.cons (.refl _) (LeL.cons (.refl _) (LeL.cons (.refl _) (LeL.cons (.refl _) (LeL.cons (.nilArr 1) (LeL.cons (.refl _) (LeL.cons (.refl _) (LeL.cons (.refl _) (LeL.cons (.refl _) (LeL.cons (.nilArr 1) (LeL.cons (.refl _) (LeL.cons (.refl _) (LeL.cons (.refl _) (LeL.cons (.refl _) (LeL.cons (.nilArr 1) (.refl _)))))))))))))))
      refine CallW.ref hrec [66] [] rfl Try.call217 (by simp) ?_ (by simp) ?_ (.inl rfl) ?_
      · simp -implicitDefEqProofs only [srR, Nat.reduceEqDiff, ↓reduceIte, ints, rows, intsO, rowsO]
      · simp -implicitDefEqProofs only [agR, Nat.reduceLeDiff, Nat.reduceSub, vaR, go_sem, ints, rows, rat, rats, ratsO, rtR, intsO, rowsO]
      simp -implicitDefEqProofs only [clR, Nat.reduceLeDiff, go_sem, evR, rat, nodesO]
      refine ⟨by omega, by omega, by omega, ?_⟩
      rw [← chunk_ch l' l.length z _ hz]; rfl
    · obtain ⟨l', hl2, hl3, hrec⟩ := spec_l20Grow_L bet hb B hB M hM r (by omega) (l ++ [⟨1, p0, p1, -1, []⟩, ⟨2, p0, p1, 1, []⟩, ⟨2, p0, p0, -1, []⟩]) 0 p0 (p0 + bet) false ⟨by simp; omega, fun x hx => by
        simp only [List.mem_append, List.mem_cons, List.not_mem_nil, or_false] at hx
        rcases hx with hx | rfl | rfl | rfl
        · exact hl.2 x hx
        all_goals simp⟩ (by simp; omega) (.inl ⟨rfl, by omega⟩) q0 (by omega) (by omega) (by omega)
      simp only [List.length_append, List.length_cons, List.length_nil] at hl2 hl3
      have hnl' : (chunk nodeCO l').length = l'.length * 5 := chunk_length nodeCO_len l'
      obtain ⟨z, hz⟩ : ∃ z, l'[l.length]? = some z := ⟨_, List.getElem?_eq_getElem (by omega)⟩
      refine ⟨l'.set l.length ⟨z.p, z.a, z.b, z.f, [((l.length * 5 + 5) / 5 : Nat), ((l.length * 5 + 5 + 5) / 5 : Nat), ((l.length * 5 + 5 + 5 + 5) / 5 : Nat)]⟩, smallN_set ⟨by have := hl2.1; omega, hl2.2⟩ _ _ (by simp), by rw [List.length_set]; omega, ?_⟩
      refine fun_spec_l20Grow (by simp) ?_
      simp -implicitDefEqProofs only [go_sem, evR, ints, rows, rat, rats, c_spec_l20Grow, nodesO, hnl, hnl5, decide_eq_true hp, (show ((1 : Int) == 1) = true from rfl), (show ((1 : Int) == 0) = false from rfl), hr0, List.length_append, List.length_cons, List.length_nil, Bool.false_eq_true, false_implies, forall_const, true_and]
      have hq : l.length * 5 / 5 = l.length := by omega
      have hw0 : IntKind.i64.wrap (1 - 1) = 0 := by decide
      have hw1 : IntKind.i64.wrap (p0 + bet) = p0 + bet := wrap64 (by omega) (by omega)
      have hw2 : IntKind.i64.wrap (((r + 1 : Nat) : Int) - 1) = (r : Int) := by rw [wrap64 (by omega) (by omega)]; omega
      refine ⟨by omega, by omega, by omega, ?_⟩
      simp only [hw0, hw1, hw2, hq]
      refine CallW.weak (Weak.le 66 (t' := nodesO (l ++ [⟨1, p0, p1, -1, []⟩, ⟨2, p0, p1, 1, []⟩, ⟨2, p0, p0, -1, []⟩])) rfl ?_ rfl) ?_
      · rw [nodesO, chunk_append, List.append_assoc, List.append_assoc]
        refine LeL.arr (LeL.append (.refl _) ?_)
        exact LeL.cons (.refl _) (LeL.cons (.refl _) (LeL.cons (.refl _) (LeL.cons (.refl _) (LeL.cons (.nilArr 1) (LeL.cons (.refl _) (LeL.cons (.refl _) (LeL.cons (.refl _) (LeL.cons (.refl _) (LeL.cons (.nilArr 1) (LeL.cons (.refl _) (LeL.cons (.refl _) (LeL.cons (.refl _) (LeL.cons (.refl _) (LeL.cons (.nilArr 1) (.refl _)))))))))))))))
      refine CallW.ref hrec [66] [] rfl Try.call217 (by simp) ?_ (by simp) ?_ (.inl rfl) ?_
      · simp -implicitDefEqProofs only [srR, Nat.reduceEqDiff, ↓reduceIte, ints, rows, intsO, rowsO]
      · simp -implicitDefEqProofs only [agR, Nat.reduceLeDiff, Nat.reduceSub, vaR, go_sem, ints, rows, rat, rats, ratsO, rtR, intsO, rowsO]
      simp -implicitDefEqProofs only [clR, Nat.reduceLeDiff, go_sem, evR, rat, nodesO]
      refine ⟨by omega, by omega, by omega, ?_⟩
      rw [← chunk_ch l' l.length z _ hz]; rfl
set_option maxRecDepth 20000 in
theorem spec_l20Grow_C (bet : Int) (hb : 1 ≤ bet ∧ bet ≤ 1000) (r : Nat) (hr : r ≤ 2) (l : List Nd) (pl p : Int) (hl : smallN 900 l) (hp : pl = 0 ∨ pl = 1) (q0 : 0 ≤ p) (q1 : p ≤ 1000) :
    ∃ l' : List Nd, smallN (l.length + 2 + 3 * (r + 1)) l' ∧ l.length < l'.length ∧ Fun Try.prog 217 [nodesO l] [.own 1000000000, .t (.i pl), .t (.i p), .t (.i p), .t (.i bet), .t (.i r), .t (.b true)] fun o res => o = [.any] ∧ res = nodesO l' := by
  have hnl : (chunk nodeCO l).length / 5 = l.length := chunk_div nodeCO_len (by decide) l
  have hnl5 : (chunk nodeCO l).length = l.length * 5 := chunk_length nodeCO_len l
  have hl1 := hl.1
  have hq : l.length * 5 / 5 = l.length := by omega
  have hw1 : IntKind.i64.wrap (p + bet) = p + bet := wrap64 (by omega) (by omega)
  rcases hp with rfl | rfl
  · obtain ⟨l', hl2, hl3, hrec⟩ := spec_l20Grow_L bet hb 1000 (by omega) 10000 (by omega) r hr (l ++ [⟨0, p, p, -1, []⟩, ⟨2, p, p, -1, []⟩]) 1 (p + bet) p false ⟨by simp; omega, fun x hx => by
      simp only [List.mem_append, List.mem_cons, List.not_mem_nil, or_false] at hx
      rcases hx with hx | rfl | rfl
      · exact hl.2 x hx
      all_goals simp⟩ (by simp; omega) (.inr ⟨rfl, by omega⟩) (by omega) q0 (by omega) (by omega)
    simp only [List.length_append, List.length_cons, List.length_nil] at hl2 hl3
    have hnl' : (chunk nodeCO l').length = l'.length * 5 := chunk_length nodeCO_len l'
    obtain ⟨z, hz⟩ : ∃ z, l'[l.length]? = some z := ⟨_, List.getElem?_eq_getElem (by omega)⟩
    refine ⟨l'.set l.length ⟨z.p, z.a, z.b, z.f, [((l.length * 5 + 5) / 5 : Nat), ((l.length * 5 + 5 + 5) / 5 : Nat)]⟩, smallN_set ⟨by have := hl2.1; omega, hl2.2⟩ _ _ (by simp), by rw [List.length_set]; omega, ?_⟩
    refine fun_spec_l20Grow (by simp) ?_
    have hw0 : IntKind.i64.wrap (1 - 0) = 1 := by decide
    simp -implicitDefEqProofs only [go_sem, evR, ints, rows, rat, rats, c_spec_l20Grow, nodesO, hnl, hnl5, decide_eq_false (show ¬ p < p by omega), (show ((0 : Int) == 1) = false from rfl), (show ((0 : Int) == 0) = true from rfl), List.length_append, List.length_cons, List.length_nil, Bool.false_eq_true, false_implies, forall_const, true_and]
    refine ⟨by omega, by omega, ?_⟩
    simp only [hw0, hw1, hq]
    refine CallW.weak (Weak.le 84 (t' := nodesO (l ++ [⟨0, p, p, -1, []⟩, ⟨2, p, p, -1, []⟩])) rfl ?_ rfl) ?_
    · rw [nodesO, chunk_append, List.append_assoc]
      refine LeL.arr (LeL.append (.refl _) ?_)
      exact LeL.cons (.refl _) (LeL.cons (.refl _) (LeL.cons (.refl _) (LeL.cons (.refl _) (LeL.cons (.nilArr 1) (LeL.cons (.refl _) (LeL.cons (.refl _) (LeL.cons (.refl _) (LeL.cons (.refl _) (LeL.cons (.nilArr 1) (.refl _))))))))))
    refine CallW.ref hrec [84] [] rfl Try.call217 (by simp) ?_ (by simp) ?_ (.inl rfl) ?_
    · simp -implicitDefEqProofs only [srR, Nat.reduceEqDiff, ↓reduceIte, ints, rows, intsO, rowsO]
    · simp -implicitDefEqProofs only [agR, Nat.reduceLeDiff, Nat.reduceSub, vaR, go_sem, ints, rows, rat, rats, ratsO, rtR, intsO, rowsO]
    simp -implicitDefEqProofs only [clR, Nat.reduceLeDiff, go_sem, evR, rat, nodesO]
    refine ⟨by omega, by omega, by omega, ?_⟩
    rw [← chunk_ch l' l.length z _ hz]; rfl
  · obtain ⟨l', hl2, hl3, hrec⟩ := spec_l20Grow_L bet hb 1000 (by omega) 10000 (by omega) r hr (l ++ [⟨1, p, p, -1, []⟩, ⟨2, p, p, -1, []⟩]) 0 p (p + bet) false ⟨by simp; omega, fun x hx => by
      simp only [List.mem_append, List.mem_cons, List.not_mem_nil, or_false] at hx
      rcases hx with hx | rfl | rfl
      · exact hl.2 x hx
      all_goals simp⟩ (by simp; omega) (.inl ⟨rfl, by omega⟩) q0 (by omega) (by omega) (by omega)
    simp only [List.length_append, List.length_cons, List.length_nil] at hl2 hl3
    have hnl' : (chunk nodeCO l').length = l'.length * 5 := chunk_length nodeCO_len l'
    obtain ⟨z, hz⟩ : ∃ z, l'[l.length]? = some z := ⟨_, List.getElem?_eq_getElem (by omega)⟩
    refine ⟨l'.set l.length ⟨z.p, z.a, z.b, z.f, [((l.length * 5 + 5) / 5 : Nat), ((l.length * 5 + 5 + 5) / 5 : Nat)]⟩, smallN_set ⟨by have := hl2.1; omega, hl2.2⟩ _ _ (by simp), by rw [List.length_set]; omega, ?_⟩
    refine fun_spec_l20Grow (by simp) ?_
    have hw0 : IntKind.i64.wrap (1 - 1) = 0 := by decide
    simp -implicitDefEqProofs only [go_sem, evR, ints, rows, rat, rats, c_spec_l20Grow, nodesO, hnl, hnl5, decide_eq_false (show ¬ p < p by omega), (show ((1 : Int) == 1) = true from rfl), (show ((1 : Int) == 0) = false from rfl), List.length_append, List.length_cons, List.length_nil, Bool.false_eq_true, false_implies, forall_const, true_and]
    refine ⟨by omega, by omega, ?_⟩
    simp only [hw0, hw1, hq]
    refine CallW.weak (Weak.le 84 (t' := nodesO (l ++ [⟨1, p, p, -1, []⟩, ⟨2, p, p, -1, []⟩])) rfl ?_ rfl) ?_
    · rw [nodesO, chunk_append, List.append_assoc]
      refine LeL.arr (LeL.append (.refl _) ?_)
      exact LeL.cons (.refl _) (LeL.cons (.refl _) (LeL.cons (.refl _) (LeL.cons (.refl _) (LeL.cons (.nilArr 1) (LeL.cons (.refl _) (LeL.cons (.refl _) (LeL.cons (.refl _) (LeL.cons (.refl _) (LeL.cons (.nilArr 1) (.refl _))))))))))
    refine CallW.ref hrec [84] [] rfl Try.call217 (by simp) ?_ (by simp) ?_ (.inl rfl) ?_
    · simp -implicitDefEqProofs only [srR, Nat.reduceEqDiff, ↓reduceIte, ints, rows, intsO, rowsO]
    · simp -implicitDefEqProofs only [agR, Nat.reduceLeDiff, Nat.reduceSub, vaR, go_sem, ints, rows, rat, rats, ratsO, rtR, intsO, rowsO]
    simp -implicitDefEqProofs only [clR, Nat.reduceLeDiff, go_sem, evR, rat, nodesO]
    refine ⟨by omega, by omega, by omega, ?_⟩
    rw [← chunk_ch l' l.length z _ hz]; rfl
set_option maxRecDepth 20000 in
theorem spec_l20Grow_0 (bet : Int) (hb : 1 ≤ bet ∧ bet ≤ 1000) (r : Nat) (hr : r ≤ 2) (p : Int) (q0 : 0 ≤ p) (q1 : p ≤ 1000) :
    ∃ l' : List Nd, smallN 100 l' ∧ 0 < l'.length ∧ Fun Try.prog 217 [] [.t (.v (.slice none 0 0)), .t (.i 0), .t (.i p), .t (.i p), .t (.i bet), .t (.i r), .t (.b false)] fun o res => o = [] ∧ res = nodesO l' := by
  obtain ⟨l1, hl2, hl3, hC⟩ := spec_l20Grow_C bet hb r hr [⟨0, p, p, -1, []⟩] 1 p ⟨by simp, by simp⟩ (.inr rfl) q0 q1
  simp only [List.length_cons, List.length_nil] at hl2 hl3
  have h1 := hl2.1
  obtain ⟨l2, hl5, hl6, hrec⟩ := spec_l20Grow_L bet hb 1000 (by omega) 10000 (by omega) r hr l1 1 (p + bet) p false ⟨by omega, hl2.2⟩ (by omega) (.inr ⟨rfl, by omega⟩) (by omega) q0 (by omega) (by omega)
  have hnl' : (chunk nodeCO l2).length = l2.length * 5 := chunk_length nodeCO_len l2
  obtain ⟨z, hz⟩ : ∃ z, l2[0]? = some z := ⟨_, List.getElem?_eq_getElem (by omega)⟩
  refine ⟨l2.set 0 ⟨z.p, z.a, z.b, z.f, [1, ((chunk nodeCO l1).length / 5 : Nat)]⟩, smallN_set ⟨by have := hl5.1; omega, hl5.2⟩ _ _ (by simp), by rw [List.length_set]; omega, ?_⟩
  refine fun_spec_l20Grow (by simp) ?_
  have hw1 : IntKind.i64.wrap (p + bet) = p + bet := wrap64 (by omega) (by omega)
  have hw0 : IntKind.i64.wrap (1 - 0) = 1 := by decide
  simp -implicitDefEqProofs only [go_sem, evR, ints, rows, rat, rats, c_spec_l20Grow, nodesO, decide_eq_false (show ¬ p < p by omega), (show ((0 : Int) == 1) = false from rfl), (show ((0 : Int) == 0) = true from rfl), List.length_append, List.length_cons, List.length_nil, Bool.false_eq_true, false_implies, forall_const, true_and]
  simp only [hw0]
  refine CallW.weak (Weak.le 27 (t' := nodesO [⟨0, p, p, -1, []⟩]) rfl ?_ rfl) ?_
  · exact LeL.arr (LeL.cons (.refl _) (LeL.cons (.refl _) (LeL.cons (.refl _) (LeL.cons (.refl _) (LeL.cons (.nilArr 1) (.refl _))))))
  refine CallW.ref hC [27] [] rfl Try.call217 (by simp) ?_ (by simp) ?_ (.inl rfl) ?_
  · simp -implicitDefEqProofs only [srR, Nat.reduceEqDiff, ↓reduceIte, ints, rows, intsO, rowsO]
  · simp -implicitDefEqProofs only [agR, Nat.reduceLeDiff, Nat.reduceSub, vaR, go_sem, ints, rows, rat, rats, ratsO, rtR, intsO, rowsO]
  simp -implicitDefEqProofs only [clR, Nat.reduceLeDiff, go_sem, evR, rat, nodesO, (show ((0 : Int) == 0) = true from rfl), forall_const, Bool.false_eq_true, false_implies, true_and]
  simp only [hw0, hw1]
  simp only [nodesO] at hrec
  refine CallW.ref hrec [44] [] rfl Try.call217 (by simp) ?_ (by simp) ?_ (.inl rfl) ?_
  · simp -implicitDefEqProofs only [srR, Nat.reduceEqDiff, ↓reduceIte, ints, rows, intsO, rowsO]
  · simp -implicitDefEqProofs only [agR, Nat.reduceLeDiff, Nat.reduceSub, vaR, go_sem, ints, rows, rat, rats, ratsO, rtR, intsO, rowsO]
  simp -implicitDefEqProofs only [clR, Nat.reduceLeDiff, go_sem, evR, rat]
  refine ⟨by omega, by omega, ?_⟩
  rw [← chunk_ch l2 0 z _ hz]; rfl
set_option maxRecDepth 20000 in
theorem spec_BetTree_w (ante bet : Int) (r : Nat) (h0 : 0 ≤ ante) (h1 : ante ≤ 20) (b0 : 1 ≤ bet) (b1 : bet ≤ 20) (hr : r ≤ 1) :
    ∃ l' : List Nd, smallN 100 l' ∧ 0 < l'.length ∧ Fun Try.prog 184 [] [.t (.i ante), .t (.i bet), .t (.i r)] fun o res => o = [] ∧ res = .tup [.agg [nodesO l'], .i 0] := by
  obtain ⟨l', h1', h2', hG⟩ := spec_l20Grow_0 bet (by omega) r (by omega) ante h0 (by omega)
  refine ⟨l', h1', h2', ?_⟩
  refine fun_spec_BetTree (by simp) ?_
  simp -implicitDefEqProofs only [go_sem, evR, ints, rows, rat, rats, c_spec_BetTree]
  have e1 : decide (0 ≤ ante ∧ ante ≤ 100) = true := decide_eq_true (by omega)
  have e2 : decide (1 ≤ bet ∧ bet ≤ 100) = true := decide_eq_true (by omega)
  have e3 : decide ((0 : Int) ≤ (r : Int) ∧ (r : Int) ≤ 2) = true := decide_eq_true (by omega)
  refine CallW.pure (spec_l01In_ok ante 0 100) [] rfl Try.call148 ?_ (by first | trivial | simp [T.noSh, T.noShL, rat]) rfl ?_
  · simp -implicitDefEqProofs only [agR, Nat.reduceLeDiff, Nat.reduceSub, vaR, go_sem, ints, rows, rat, rats, ratsO, rtR, intsO, rowsO]
  simp -implicitDefEqProofs only [go_sem, evR, ints, rows, rat, rats, e1, Bool.not_true]
  refine CallW.pure (spec_l01In_ok bet 1 100) [] rfl Try.call148 ?_ (by first | trivial | simp [T.noSh, T.noShL, rat]) rfl ?_
  · simp -implicitDefEqProofs only [agR, Nat.reduceLeDiff, Nat.reduceSub, vaR, go_sem, ints, rows, rat, rats, ratsO, rtR, intsO, rowsO]
  simp -implicitDefEqProofs only [go_sem, evR, ints, rows, rat, rats, e2, Bool.not_true]
  refine CallW.pure (spec_l01In_ok r 0 2) [] rfl Try.call148 ?_ (by first | trivial | simp [T.noSh, T.noShL, rat]) rfl ?_
  · simp -implicitDefEqProofs only [agR, Nat.reduceLeDiff, Nat.reduceSub, vaR, go_sem, ints, rows, rat, rats, ratsO, rtR, intsO, rowsO]
  simp -implicitDefEqProofs only [go_sem, evR, ints, rows, rat, rats, e3, Bool.not_true]
  have hm : 0 ≤ bet * ((r : Int) + 1) ∧ bet * ((r : Int) + 1) ≤ 40 := by
    have : (r : Int) = 0 ∨ (r : Int) = 1 := by omega
    rcases this with h | h <;> rw [h] <;> omega
  have hw1 : IntKind.i64.wrap ((r : Int) + 1) = (r : Int) + 1 := wrap64 (by omega) (by omega)
  have hw2 : IntKind.i64.wrap (bet * ((r : Int) + 1)) = bet * ((r : Int) + 1) := wrap64 (by omega) (by omega)
  have hw3 : IntKind.i64.wrap (ante + bet * ((r : Int) + 1)) = ante + bet * ((r : Int) + 1) := wrap64 (by omega) (by omega)
  simp only [hw1, hw2, hw3]
  refine ⟨fun h => by omega, fun _ => ?_⟩
  refine CallW.res hG [] rfl Try.call217 ?_ (.inl rfl) ?_
  · simp -implicitDefEqProofs only [agR, Nat.reduceLeDiff, Nat.reduceSub, vaR, go_sem, ints, rows, rat, rats, ratsO, rtR, intsO, rowsO]
  simp -implicitDefEqProofs only [clR, Nat.reduceLeDiff, go_sem, evR, rat, nodesO]
end
end Go.Ab

/- Contracts: drawn trees, part 2: random trees, exactly. -/
set_option linter.unusedSimpArgs false
set_option linter.unusedVariables false
namespace Go.Ab
open Go.Proofs
def rndN : Nat → Nat
  | 0 => 1
  | d + 1 => 1 + 3 * rndN d
theorem rndN_ge : ∀ d, d + 1 ≤ rndN d
  | 0 => Nat.le_refl _
  | d + 1 => by have := rndN_ge d; rw [rndN]; omega
def rndEnd (cs : List Int) (l : List Nd) (z : Int × (Nat × Int)) : List Nd × (Nat × Int) :=
  if 0 ≤ IntKind.i64.wrap ((nextS cs z.2 3).1 - 1) then (l ++ [⟨2, z.1, (nextS cs (nextS cs z.2 3).2 6).1, IntKind.i64.wrap ((nextS cs z.2 3).1 - 1), []⟩], (nextS cs (nextS cs z.2 3).2 6).2)
  else (l ++ [⟨2, z.1, z.1, IntKind.i64.wrap ((nextS cs z.2 3).1 - 1), []⟩], (nextS cs z.2 3).2)
def rndStep (f : List Nd × (Nat × Int) → List Nd × (Nat × Int)) (s : (List Nd × (Nat × Int)) × List Int) : (List Nd × (Nat × Int)) × List Int := (f (s.1.1, s.1.2), s.2 ++ [(s.1.1.length : Int)])
def rndLoop (f : List Nd × (Nat × Int) → List Nd × (Nat × Int)) (s : (List Nd × (Nat × Int)) × List Int) : Nat → (List Nd × (Nat × Int)) × List Int
  | 0 => s
  | k + 1 => rndStep f (rndLoop f s k)
def setCh (l : List Nd) (i : Nat) (ch : List Int) : List Nd := match l[i]? with | some z => l.set i ⟨z.p, z.a, z.b, z.f, ch⟩ | none => l
def rndBeg (cs : List Int) (l : List Nd) (paid : Int) (b : Nat × Int) : (List Nd × (Nat × Int)) × List Int := ((l ++ [⟨(nextS cs b 2).1, paid, paid, -1, []⟩], (nextS cs (nextS cs b 2).2 3).2), [])
def rndNode (cs : List Int) (f : List Nd × (Nat × Int) → List Nd × (Nat × Int)) (l : List Nd) (paid : Int) (b : Nat × Int) : List Nd × (Nat × Int) :=
  (setCh (rndLoop f (rndBeg cs l paid b) (1 + (nextS cs (nextS cs b 2).2 3).1).toNat).1.1 l.length (rndLoop f (rndBeg cs l paid b) (1 + (nextS cs (nextS cs b 2).2 3).1).toNat).2, (rndLoop f (rndBeg cs l paid b) (1 + (nextS cs (nextS cs b 2).2 3).1).toNat).1.2)
def rndF (cs : List Int) : Nat → List Nd × (Nat × Int) → List Nd × (Nat × Int)
  | 0, s => rndEnd cs s.1 (nextS cs s.2 6)
  | d + 1, s => if 30 < s.1.length then rndEnd cs s.1 (nextS cs s.2 6)
    else if 0 < s.1.length then (if (nextS cs (nextS cs s.2 6).2 3).1 = 0 then rndEnd cs s.1 ((nextS cs s.2 6).1, (nextS cs (nextS cs s.2 6).2 3).2) else rndNode cs (rndF cs d) s.1 (nextS cs s.2 6).1 (nextS cs (nextS cs s.2 6).2 3).2)
    else rndNode cs (rndF cs d) s.1 (nextS cs s.2 6).1 (nextS cs s.2 6).2
def grown (b : Nat) (l : List Nd) (x : List Nd × (Nat × Int)) : Prop := smallN (l.length + b) x.1 ∧ l.length < x.1.length ∧ seedOK x.2
theorem mem8 {l : List Nd} {z : Nd} (h : ∀ x ∈ l, x.ch.length ≤ 8) (hz : z.ch.length ≤ 8) : ∀ x ∈ l ++ [z], x.ch.length ≤ 8 := by
  intro x hx
  rcases List.mem_append.1 hx with hx | hx
  · exact h x hx
  · simp at hx; rw [hx]; exact hz
theorem rndEnd_ok {cs : List Int} (hl : cs.length ≤ 100000000000) {l : List Nd} (hs : ∀ x ∈ l, x.ch.length ≤ 8) {z : Int × (Nat × Int)} (hz : seedOK z.2) : grown 1 l (rndEnd cs l z) := by
  have h3 := nextS_seed (cs := cs) hl hz 3
  have h6 := nextS_seed (cs := cs) hl h3 6
  unfold rndEnd
  split
  · exact ⟨⟨by simp, mem8 hs (by simp)⟩, by simp, h6⟩
  · exact ⟨⟨by simp, mem8 hs (by simp)⟩, by simp, h3⟩
theorem rndLoop_ok {f : List Nd × (Nat × Int) → List Nd × (Nat × Int)} {b : Nat} {s : (List Nd × (Nat × Int)) × List Int} (hs : ∀ x ∈ s.1.1, x.ch.length ≤ 8) (hb : seedOK s.1.2) (hc : s.2 = []) (B : Nat) : ∀ k, k ≤ 3 → s.1.1.length + k * b ≤ B → (∀ m e, seedOK e → (∀ x ∈ m, x.ch.length ≤ 8) → m.length + b ≤ B → grown b m (f (m, e))) →
    (rndLoop f s k).1.1.length ≤ s.1.1.length + k * b ∧ (∀ x ∈ (rndLoop f s k).1.1, x.ch.length ≤ 8) ∧ s.1.1.length ≤ (rndLoop f s k).1.1.length ∧ seedOK (rndLoop f s k).1.2 ∧ (rndLoop f s k).2.length = k
  | 0, _, _, _ => by
    simp only [rndLoop]
    exact ⟨by omega, hs, Nat.le_refl _, hb, by rw [hc]; rfl⟩
  | k + 1, hk, hB, hf => by
    have e : (k + 1) * b = k * b + b := by rw [Nat.add_mul]; omega
    obtain ⟨h1, h2, h3, h4, h5⟩ := rndLoop_ok hs hb hc B k (by omega) (by omega) hf
    obtain ⟨g1, g2, g3⟩ := hf (rndLoop f s k).1.1 (rndLoop f s k).1.2 h4 h2 (by omega)
    simp only [rndLoop, rndStep]
    refine ⟨?_, g1.2, by have := g2; omega, g3, by simp [h5]⟩
    have := g1.1
    rw [e]; omega
theorem setCh_small {b : Nat} {l : List Nd} (h : smallN b l) (i : Nat) {ch : List Int} (hc : ch.length ≤ 8) : smallN b (setCh l i ch) ∧ (setCh l i ch).length = l.length := by
  unfold setCh
  split
  · exact ⟨smallN_set h _ _ hc, by rw [List.length_set]⟩
  · exact ⟨h, rfl⟩
theorem rndNode_ok {cs : List Int} (hl : cs.length ≤ 100000000000) {f : List Nd × (Nat × Int) → List Nd × (Nat × Int)} {b B : Nat} (hf : ∀ m e, seedOK e → (∀ x ∈ m, x.ch.length ≤ 8) → m.length + b ≤ B → grown b m (f (m, e))) {l : List Nd} (hs : ∀ x ∈ l, x.ch.length ≤ 8) {paid : Int} {e : Nat × Int} (he : seedOK e) (hB : l.length + 1 + 3 * b ≤ B) : grown (1 + 3 * b) l (rndNode cs f l paid e) := by
  have h2 := nextS_seed (cs := cs) hl he 2
  have h3 := nextS_seed (cs := cs) hl h2 3
  have hb3 := nextS_bound (cs := cs) (a := (nextS cs e 2).2) (n := 3) (by omega)
  obtain ⟨K, hK⟩ : ∃ K : Nat, (1 + (nextS cs (nextS cs e 2).2 3).1).toNat = K := ⟨_, rfl⟩
  have hK3 : 1 ≤ K ∧ K ≤ 3 := by omega
  have hKb : K * b ≤ 3 * b := Nat.mul_le_mul_right _ hK3.2
  obtain ⟨q1, q2, q3, q4, q5⟩ := rndLoop_ok (s := rndBeg cs l paid e) (b := b) (f := f) (mem8 hs (by simp)) h3 rfl B K hK3.2 (by simp [rndBeg]; omega) hf
  have hlen : (rndBeg cs l paid e).1.1.length = l.length + 1 := by simp [rndBeg]
  rw [hlen] at q1 q3
  unfold rndNode
  rw [hK]
  have hsm : smallN (l.length + (1 + 3 * b)) (rndLoop f (rndBeg cs l paid e) K).1.1 := ⟨by omega, q2⟩
  obtain ⟨s1, s2⟩ := setCh_small hsm l.length (ch := (rndLoop f (rndBeg cs l paid e) K).2) (by omega)
  exact ⟨s1, by show l.length < (setCh _ _ _).length; rw [s2]; omega, q4⟩
theorem rndF_ok {cs : List Int} (hl : cs.length ≤ 100000000000) : ∀ (d : Nat) (l : List Nd) (a : Nat × Int), seedOK a → (∀ x ∈ l, x.ch.length ≤ 8) → grown (rndN d) l (rndF cs d (l, a))
  | 0, l, a, ha, hs => rndEnd_ok hl hs (nextS_seed hl ha 6)
  | d + 1, l, a, ha, hs => by
    have h6 := nextS_seed (cs := cs) hl ha 6
    have h3 := nextS_seed (cs := cs) hl h6 3
    have up : ∀ x, grown 1 l x → grown (rndN (d + 1)) l x := fun x h => ⟨⟨by have := h.1.1; rw [rndN]; omega, h.1.2⟩, h.2⟩
    have hf : ∀ m e, seedOK e → (∀ x ∈ m, x.ch.length ≤ 8) → m.length + rndN d ≤ l.length + 1 + 3 * rndN d → grown (rndN d) m (rndF cs d (m, e)) := fun m e he hm _ => rndF_ok hl d m e he hm
    rw [rndF]
    split
    · exact up _ (rndEnd_ok hl hs h6)
    · split
      · split
        · exact up _ (rndEnd_ok hl hs h3)
        · exact rndNode_ok hl hf hs h3 (Nat.le_refl _)
      · exact rndNode_ok hl hf hs h6 (Nat.le_refl _)
section
attribute [-go_sem] load1C load1V fldC lenC idxC loadNV
set_option maxRecDepth 20000 in
theorem spec_l20Random_ok (cs : List Int) (hc : bytesOK cs) (hl : cs.length ≤ 100000000000) (B : Nat) (hB0 : B ≤ 1000) : ∀ (d : Nat) (l : List Nd) (a : Nat × Int), seedOK a → smallN B l → l.length + rndN d ≤ B →
    Fun Try.prog 199 [.box [bytes cs, .i a.1, .i a.2], nodesO l] [.own 1000000000, .own 1000000001, .t (.i d)] fun o res => o = [.box [bytes cs, .i (rndF cs d (l, a)).2.1, .i (rndF cs d (l, a)).2.2], .any] ∧ res = nodesO (rndF cs d (l, a)).1 := by
  intro d l a ha hs hb
  refine Fun.le (Q := fun o res => o = [.box [bytes cs, .i (rndF cs d (l, a)).2.1, .i (rndF cs d (l, a)).2.2], .any] ∧ (res = nodesO (rndF cs d (l, a)).1 ∨ ∃ p q f, (rndF cs d (l, a)).1 = l ++ [⟨2, p, q, f, []⟩] ∧ res = .arr 5 (chunk nodeCO l ++ [.i 2, .i p, .i q, .i f, .v (.slice none 0 0)]))) ?_ ?_
  rotate_left
  · rintro o res ⟨rfl, rfl | ⟨p, q, f, e, rfl⟩⟩
    · exact ⟨_, .refl _, rfl, rfl⟩
    · refine ⟨nodesO (rndF cs d (l, a)).1, ?_, rfl, rfl⟩
      rw [e, nodesO, chunk_append]
      exact LeL.arr (LeL.append (.refl _) (LeL.cons (.refl _) (LeL.cons (.refl _) (LeL.cons (.refl _) (LeL.cons (.refl _) (LeL.cons (.nilArr 1) (.refl _)))))))
  have hnl : (chunk nodeCO l).length / 5 = l.length := chunk_div nodeCO_len (by decide) l
  have hnl5 : (chunk nodeCO l).length = l.length * 5 := chunk_length nodeCO_len l
  have hl1 := hs.1
  match d, hb with
  | 0, hb =>
    refine fun_spec_l20Random (by simp) ?_
    simp -implicitDefEqProofs only [go_sem, evR, ints, rows, rat, rats, c_spec_l20Random, nodesO, hnl, hnl5, (show (((0 : Nat) : Int) == 0) = true from rfl)]
    refine CallW.ref (next_box cs hc hl a ha 6 (by omega)) [1000000000] [] rfl Try.call126 (by simp) ?_ (by simp) ?_ (.inl rfl) ?_
    · simp -implicitDefEqProofs only [srR, Nat.reduceEqDiff, ↓reduceIte, ints, rows, intsO, rowsO]
    · simp -implicitDefEqProofs only [agR, Nat.reduceLeDiff, Nat.reduceSub, vaR, go_sem, ints, rows, rat, rats, ratsO, rtR, intsO, rowsO]
    simp -implicitDefEqProofs only [clR, Nat.reduceLeDiff, go_sem, evR, rat]
    have hs2 := nextS_seed (cs := cs) hl ha 6
    generalize hz : nextS cs a 6 = z at hs2 ⊢
    obtain ⟨paid, b⟩ := z
    simp only [] at hs2 ⊢
    refine ⟨fun h => absurd h (by decide), fun _ => ?_⟩
    refine CallW.ref (next_box cs hc hl b hs2 3 (by omega)) [1000000000] [] rfl Try.call126 (by simp) ?_ (by simp) ?_ (.inl rfl) ?_
    · simp -implicitDefEqProofs only [srR, Nat.reduceEqDiff, ↓reduceIte, ints, rows, intsO, rowsO]
    · simp -implicitDefEqProofs only [agR, Nat.reduceLeDiff, Nat.reduceSub, vaR, go_sem, ints, rows, rat, rats, ratsO, rtR, intsO, rowsO]
    simp -implicitDefEqProofs only [clR, Nat.reduceLeDiff, go_sem, evR, rat]
    have hs3 := nextS_seed (cs := cs) hl hs2 3
    generalize hz3 : nextS cs b 3 = z at hs3 ⊢
    obtain ⟨f, b3⟩ := z
    simp only [] at hs3 ⊢
    have hF := (show rndF cs 0 (l, a) = rndEnd cs l (paid, b) by rw [rndF, hz])
    refine ⟨fun h => ?_, fun h => ?_⟩
    · refine CallW.ref (next_box cs hc hl b3 hs3 6 (by omega)) [1000000000] [] rfl Try.call126 (by simp) ?_ (by simp) ?_ (.inl rfl) ?_
      · simp -implicitDefEqProofs only [srR, Nat.reduceEqDiff, ↓reduceIte, ints, rows, intsO, rowsO]
      · simp -implicitDefEqProofs only [agR, Nat.reduceLeDiff, Nat.reduceSub, vaR, go_sem, ints, rows, rat, rats, ratsO, rtR, intsO, rowsO]
      simp -implicitDefEqProofs only [clR, Nat.reduceLeDiff, go_sem, evR, rat]
      have hE : rndEnd cs l (paid, b) = (l ++ [⟨2, paid, (nextS cs b3 6).1, IntKind.i64.wrap (f - 1), []⟩], (nextS cs b3 6).2) := by
        simp only [rndEnd, hz3]; exact if_pos h
      rw [hF, hE]
      exact ⟨by omega, rfl, .inr ⟨paid, _, _, rfl, rfl⟩⟩
    · have hE : rndEnd cs l (paid, b) = (l ++ [⟨2, paid, paid, IntKind.i64.wrap (f - 1), []⟩], b3) := by
        simp only [rndEnd, hz3]; exact if_neg h
      rw [hF, hE]
      exact ⟨by omega, rfl, .inr ⟨paid, _, _, rfl, rfl⟩⟩
  | d + 1, hb =>
    have hB := hb
    have hdg := rndN_ge d
    simp only [rndN] at hB
    have hd0 : (((d + 1 : Nat) : Int) == 0) = false := by simp; omega
    refine fun_spec_l20Random (by simp) ?_
    simp -implicitDefEqProofs only [go_sem, evR, ints, rows, rat, rats, c_spec_l20Random, nodesO, hnl, hnl5, hd0]
    refine CallW.ref (next_box cs hc hl a ha 6 (by omega)) [1000000000] [] rfl Try.call126 (by simp) ?_ (by simp) ?_ (.inl rfl) ?_
    · simp -implicitDefEqProofs only [srR, Nat.reduceEqDiff, ↓reduceIte, ints, rows, intsO, rowsO]
    · simp -implicitDefEqProofs only [agR, Nat.reduceLeDiff, Nat.reduceSub, vaR, go_sem, ints, rows, rat, rats, ratsO, rtR, intsO, rowsO]
    simp -implicitDefEqProofs only [clR, Nat.reduceLeDiff, go_sem, evR, rat, hd0, hnl]
    have hs2 := nextS_seed (cs := cs) hl ha 6
    generalize hz : nextS cs a 6 = z at hs2 ⊢
    obtain ⟨paid, b⟩ := z
    simp only [] at hs2 ⊢
    refine ⟨fun h30 => ⟨fun h0 => ?_, fun h0 => ?_⟩, fun h30 => ?_⟩
    · refine CallW.ref (next_box cs hc hl b hs2 3 (by omega)) [1000000000] [] rfl Try.call126 (by simp) ?_ (by simp) ?_ (.inl rfl) ?_
      · simp -implicitDefEqProofs only [srR, Nat.reduceEqDiff, ↓reduceIte, ints, rows, intsO, rowsO]
      · simp -implicitDefEqProofs only [agR, Nat.reduceLeDiff, Nat.reduceSub, vaR, go_sem, ints, rows, rat, rats, ratsO, rtR, intsO, rowsO]
      simp -implicitDefEqProofs only [clR, Nat.reduceLeDiff, go_sem, evR, rat]
      have hsd := nextS_seed (cs := cs) hl hs2 3
      generalize hzd : nextS cs b 3 = z at hsd ⊢
      obtain ⟨k, bd⟩ := z
      simp only [] at hsd ⊢
      refine ⟨fun hk => ?_, fun hk => ?_⟩
      · refine CallW.ref (next_box cs hc hl bd hsd 3 (by omega)) [1000000000] [] rfl Try.call126 (by simp) ?_ (by simp) ?_ (.inl rfl) ?_
        · simp -implicitDefEqProofs only [srR, Nat.reduceEqDiff, ↓reduceIte, ints, rows, intsO, rowsO]
        · simp -implicitDefEqProofs only [agR, Nat.reduceLeDiff, Nat.reduceSub, vaR, go_sem, ints, rows, rat, rats, ratsO, rtR, intsO, rowsO]
        simp -implicitDefEqProofs only [clR, Nat.reduceLeDiff, go_sem, evR, rat]
        have hs3 := nextS_seed (cs := cs) hl hsd 3
        generalize hz3 : nextS cs bd 3 = z at hs3 ⊢
        obtain ⟨f, b3⟩ := z
        simp only [] at hs3 ⊢
        have hF := (show rndF cs (d + 1) (l, a) = rndEnd cs l (paid, bd) by rw [rndF, if_neg (show ¬ 30 < l.length by omega), if_pos (show 0 < l.length by omega), hz]; simp only [hzd]; exact if_pos (by simpa using hk))
        refine ⟨fun h => ?_, fun h => ?_⟩
        · refine CallW.ref (next_box cs hc hl b3 hs3 6 (by omega)) [1000000000] [] rfl Try.call126 (by simp) ?_ (by simp) ?_ (.inl rfl) ?_
          · simp -implicitDefEqProofs only [srR, Nat.reduceEqDiff, ↓reduceIte, ints, rows, intsO, rowsO]
          · simp -implicitDefEqProofs only [agR, Nat.reduceLeDiff, Nat.reduceSub, vaR, go_sem, ints, rows, rat, rats, ratsO, rtR, intsO, rowsO]
          simp -implicitDefEqProofs only [clR, Nat.reduceLeDiff, go_sem, evR, rat]
          have hE : rndEnd cs l (paid, bd) = (l ++ [⟨2, paid, (nextS cs b3 6).1, IntKind.i64.wrap (f - 1), []⟩], (nextS cs b3 6).2) := by
            simp only [rndEnd, hz3]; exact if_pos h
          rw [hF, hE]
          exact ⟨by omega, rfl, .inr ⟨paid, _, _, rfl, rfl⟩⟩
        · have hE : rndEnd cs l (paid, bd) = (l ++ [⟨2, paid, paid, IntKind.i64.wrap (f - 1), []⟩], b3) := by
            simp only [rndEnd, hz3]; exact if_neg h
          rw [hF, hE]
          exact ⟨by omega, rfl, .inr ⟨paid, _, _, rfl, rfl⟩⟩
      · refine CallW.ref (next_box cs hc hl bd hsd 2 (by omega)) [1000000000] [] rfl Try.call126 (by simp) ?_ (by simp) ?_ (.inl rfl) ?_
        · simp -implicitDefEqProofs only [srR, Nat.reduceEqDiff, ↓reduceIte, ints, rows, intsO, rowsO]
        · simp -implicitDefEqProofs only [agR, Nat.reduceLeDiff, Nat.reduceSub, vaR, go_sem, ints, rows, rat, rats, ratsO, rtR, intsO, rowsO]
        simp -implicitDefEqProofs only [clR, Nat.reduceLeDiff, go_sem, evR, rat, List.length_append, List.length_cons, List.length_nil, hnl5]
        have hs3 := nextS_seed (cs := cs) hl hsd 2
        have hb4 := nextS_bound (cs := cs) (a := (nextS cs bd 2).2) (n := 3) (by omega)
        have hs4 := nextS_seed (cs := cs) hl hs3 3
        have hF := (show rndF cs (d + 1) (l, a) = rndNode cs (rndF cs d) l paid bd by rw [rndF, if_neg (show ¬ 30 < l.length by omega), if_pos (show 0 < l.length by omega), hz]; simp only [hzd]; exact if_neg (by simpa using hk))
        obtain ⟨K, hK⟩ : ∃ K : Nat, (1 + (nextS cs (nextS cs bd 2).2 3).1).toNat = K := ⟨_, rfl⟩
        have hKi : 1 + (nextS cs (nextS cs bd 2).2 3).1 = (K : Int) := by omega
        have hK3 : 1 ≤ K ∧ K ≤ 3 := by omega
        have hnode : rndNode cs (rndF cs d) l paid bd = (setCh (rndLoop (rndF cs d) (rndBeg cs l paid bd) K).1.1 l.length (rndLoop (rndF cs d) (rndBeg cs l paid bd) K).2, (rndLoop (rndF cs d) (rndBeg cs l paid bd) K).1.2) := by rw [rndNode, hK]
        have hloop := fun i (hi : i ≤ K) => rndLoop_ok (s := rndBeg cs l paid bd) (b := rndN d) (f := rndF cs d) (mem8 hs.2 (by simp)) hs4 rfl B i (by omega) (by have := Nat.mul_le_mul_right (rndN d) (show i ≤ 3 by omega); simp [rndBeg]; omega) (fun m e he hm _ => rndF_ok hl d m e he hm)
        refine ⟨by omega, ?_⟩
        refine CallW.weak (Weak.le 56 (t' := nodesO (l ++ [⟨(nextS cs bd 2).1, paid, paid, -1, []⟩])) rfl ?_ rfl) ?_
        · rw [nodesO, chunk_append]
          exact LeL.arr (LeL.append (.refl _) (LeL.cons (.refl _) (LeL.cons (.refl _) (LeL.cons (.refl _) (LeL.cons (.refl _) (LeL.cons (.nilArr 1) (.refl _)))))))
        refine CallW.ref (next_box cs hc hl (nextS cs bd 2).2 hs3 3 (by omega)) [1000000000] [] rfl Try.call126 (by simp) ?_ (by simp) ?_ (.inl rfl) ?_
        · simp -implicitDefEqProofs only [srR, Nat.reduceEqDiff, ↓reduceIte, ints, rows, intsO, rowsO]
        · simp -implicitDefEqProofs only [agR, Nat.reduceLeDiff, Nat.reduceSub, vaR, go_sem, ints, rows, rat, rats, ratsO, rtR, intsO, rowsO]
        simp -implicitDefEqProofs only [clR, Nat.reduceLeDiff, go_sem, evR, rat]
        have hwq : IntKind.i64.wrap (1 + (nextS cs (nextS cs bd 2).2 3).1) = (K : Int) := by rw [wrap64 (by omega) (by omega)]; exact hKi
        have hwd : IntKind.i64.wrap (((d + 1 : Nat) : Int) - 1) = (d : Int) := by rw [wrap64 (by omega) (by omega)]; omega
        have hL0 : rndLoop (rndF cs d) (rndBeg cs l paid bd) 0 = ((l ++ [⟨(nextS cs bd 2).1, paid, paid, -1, []⟩], (nextS cs (nextS cs bd 2).2 3).2), []) := rfl
        have hLs : ∀ i, rndLoop (rndF cs d) (rndBeg cs l paid bd) (i + 1) = rndStep (rndF cs d) (rndLoop (rndF cs d) (rndBeg cs l paid bd) i) := fun i => rfl
        have hl0 : (rndBeg cs l paid bd).1.1.length = l.length + 1 := by simp [rndBeg]
        generalize hLL : rndLoop (rndF cs d) (rndBeg cs l paid bd) = L at hL0 hLs hnode hloop
        refine SemC.loopR (σ := Nat) (fun i => St.ofD [(0, .own 1000000000), (1, .own 196), (2, .t (.i ((d + 1 : Nat) : Int))), (7, .t (.i l.length)), (10, .own 197), (11, .t (.i ((K : Int) - i)))] [(1000000000, .box [bytes cs, .i (L i).1.2.1, .i (L i).1.2.2]), (196, nodesO (L i).1.1), (197, intsO (L i).2)] 1000000001) (fun i => i ≤ K) (fun i => 3 - i) 0 (Weak.ofD _ _ _ [some 1000000000, some 56, some 57] (by simp) (by simp) rfl ?_ ?_) (by omega) fun i hi R hn' hr he => ?_
        · simp -implicitDefEqProofs only [ints, rows, Nat.reduceBEq, wkR, Nat.reduceEqDiff, ↓reduceIte, wrR, hwq, Int.sub_zero, Int.natCast_zero, Int.cast_ofNat_Int, show l.length * 5 / 5 = l.length by omega]
        · rw [hL0]; exact ⟨⟨_, rfl, .refl _⟩, rfl, ⟨_, rfl, .refl _⟩, rfl, ⟨_, rfl, .refl _⟩, rfl, trivial⟩
        obtain ⟨i1, i2, i3, i4, i5⟩ := hloop i hi
        rw [hl0] at i1 i3
        have hi3 := Nat.mul_le_mul_right (rndN d) (show i ≤ 3 by omega)
        have hml : (chunk nodeCO (L i).1.1).length / 5 = (L i).1.1.length := chunk_div nodeCO_len (by decide) _
        have hml5 : (chunk nodeCO (L i).1.1).length = (L i).1.1.length * 5 := chunk_length nodeCO_len _
        rcases Nat.lt_or_ge i K with h9 | h9
        · simp -implicitDefEqProofs only [go_sem, evR, ints, rows, rat, rats, nodesO, intsO, hml, hml5, decide_eq_true (show 0 < (K : Int) - (i : Int) by omega), List.length_map]
          have hi4 := Nat.mul_le_mul_right (rndN d) (show i + 1 ≤ 3 by omega)
          rw [Nat.add_mul, Nat.one_mul] at hi4
          refine ⟨by omega, ?_⟩
          simp only [hwd]
          have hrec := spec_l20Random_ok cs hc hl B hB0 d (L i).1.1 (L i).1.2 i4 ⟨by omega, i2⟩ (by omega)
          simp only [nodesO] at hrec
          refine CallW.ref hrec [1000000000, 196] [] rfl Try.call199 (by simp) ?_ (by simp) ?_ (.inl rfl) ?_
          · simp -implicitDefEqProofs only [srR, Nat.reduceEqDiff, ↓reduceIte, ints, rows, intsO, rowsO]
          · simp -implicitDefEqProofs only [agR, Nat.reduceLeDiff, Nat.reduceSub, vaR, go_sem, ints, rows, rat, rats, ratsO, rtR, intsO, rowsO]
          simp -implicitDefEqProofs only [clR, Nat.reduceLeDiff, go_sem, evR, rat]
          refine hn' _ (i + 1) (Weak.ofD _ _ _ [some 1000000000, some 74, some 69] (by simp) (by simp) rfl ?_ ?_) (by omega) (by omega)
          · simp -implicitDefEqProofs only [ints, rows, Nat.reduceBEq, wkR, Nat.reduceEqDiff, ↓reduceIte, wrR, show IntKind.i64.wrap ((K : Int) - (i : Int) - 1) = (K : Int) - ((i + 1 : Nat) : Int) by rw [wrap64 (by omega) (by omega)]; omega]
          · rw [hLs]
            refine ⟨⟨_, rfl, .refl _⟩, rfl, ⟨_, rfl, .refl _⟩, rfl, ⟨_, rfl, ?_⟩, rfl, trivial⟩
            simp only [rndStep, intsO, List.map_append, List.map_cons, List.map_nil, show (L i).1.1.length * 5 / 5 = (L i).1.1.length by omega]; exact .refl _
        · simp -implicitDefEqProofs only [go_sem, evR, ints, rows, rat, rats, nodesO, intsO, hml, hml5, decide_eq_false (show ¬ 0 < (K : Int) - (i : Int) by omega), List.length_map]
          refine he _ _ ?_
          simp -implicitDefEqProofs only [go_sem, evR, ints, rows, rat, rats, nodesO, intsO, hml, hml5]
          obtain rfl : i = K := by omega
          obtain ⟨z, hz⟩ : ∃ z, (L i).1.1[l.length]? = some z := ⟨_, List.getElem?_eq_getElem (by omega)⟩
          refine ⟨by omega, by omega, by omega, ?_⟩
          rw [hF, hnode]
          refine ⟨rfl, .inl ?_⟩
          simp only [setCh, hz]
          rw [← chunk_ch (L i).1.1 l.length z _ hz]; rfl
    · refine CallW.ref (next_box cs hc hl b hs2 2 (by omega)) [1000000000] [] rfl Try.call126 (by simp) ?_ (by simp) ?_ (.inl rfl) ?_
      · simp -implicitDefEqProofs only [srR, Nat.reduceEqDiff, ↓reduceIte, ints, rows, intsO, rowsO]
      · simp -implicitDefEqProofs only [agR, Nat.reduceLeDiff, Nat.reduceSub, vaR, go_sem, ints, rows, rat, rats, ratsO, rtR, intsO, rowsO]
      simp -implicitDefEqProofs only [clR, Nat.reduceLeDiff, go_sem, evR, rat, List.length_append, List.length_cons, List.length_nil, hnl5]
      have hs3 := nextS_seed (cs := cs) hl hs2 2
      have hb4 := nextS_bound (cs := cs) (a := (nextS cs b 2).2) (n := 3) (by omega)
      have hs4 := nextS_seed (cs := cs) hl hs3 3
      have hF := (show rndF cs (d + 1) (l, a) = rndNode cs (rndF cs d) l paid b by rw [rndF, if_neg (show ¬ 30 < l.length by omega), if_neg (show ¬ 0 < l.length by omega), hz])
      obtain ⟨K, hK⟩ : ∃ K : Nat, (1 + (nextS cs (nextS cs b 2).2 3).1).toNat = K := ⟨_, rfl⟩
      have hKi : 1 + (nextS cs (nextS cs b 2).2 3).1 = (K : Int) := by omega
      have hK3 : 1 ≤ K ∧ K ≤ 3 := by omega
      have hnode : rndNode cs (rndF cs d) l paid b = (setCh (rndLoop (rndF cs d) (rndBeg cs l paid b) K).1.1 l.length (rndLoop (rndF cs d) (rndBeg cs l paid b) K).2, (rndLoop (rndF cs d) (rndBeg cs l paid b) K).1.2) := by rw [rndNode, hK]
      have hloop := fun i (hi : i ≤ K) => rndLoop_ok (s := rndBeg cs l paid b) (b := rndN d) (f := rndF cs d) (mem8 hs.2 (by simp)) hs4 rfl B i (by omega) (by have := Nat.mul_le_mul_right (rndN d) (show i ≤ 3 by omega); simp [rndBeg]; omega) (fun m e he hm _ => rndF_ok hl d m e he hm)
      refine ⟨by omega, ?_⟩
      refine CallW.weak (Weak.le 56 (t' := nodesO (l ++ [⟨(nextS cs b 2).1, paid, paid, -1, []⟩])) rfl ?_ rfl) ?_
      · rw [nodesO, chunk_append]
        exact LeL.arr (LeL.append (.refl _) (LeL.cons (.refl _) (LeL.cons (.refl _) (LeL.cons (.refl _) (LeL.cons (.refl _) (LeL.cons (.nilArr 1) (.refl _)))))))
      refine CallW.ref (next_box cs hc hl (nextS cs b 2).2 hs3 3 (by omega)) [1000000000] [] rfl Try.call126 (by simp) ?_ (by simp) ?_ (.inl rfl) ?_
      · simp -implicitDefEqProofs only [srR, Nat.reduceEqDiff, ↓reduceIte, ints, rows, intsO, rowsO]
      · simp -implicitDefEqProofs only [agR, Nat.reduceLeDiff, Nat.reduceSub, vaR, go_sem, ints, rows, rat, rats, ratsO, rtR, intsO, rowsO]
      simp -implicitDefEqProofs only [clR, Nat.reduceLeDiff, go_sem, evR, rat]
      have hwq : IntKind.i64.wrap (1 + (nextS cs (nextS cs b 2).2 3).1) = (K : Int) := by rw [wrap64 (by omega) (by omega)]; exact hKi
      have hwd : IntKind.i64.wrap (((d + 1 : Nat) : Int) - 1) = (d : Int) := by rw [wrap64 (by omega) (by omega)]; omega
      have hL0 : rndLoop (rndF cs d) (rndBeg cs l paid b) 0 = ((l ++ [⟨(nextS cs b 2).1, paid, paid, -1, []⟩], (nextS cs (nextS cs b 2).2 3).2), []) := rfl
      have hLs : ∀ i, rndLoop (rndF cs d) (rndBeg cs l paid b) (i + 1) = rndStep (rndF cs d) (rndLoop (rndF cs d) (rndBeg cs l paid b) i) := fun i => rfl
      have hl0 : (rndBeg cs l paid b).1.1.length = l.length + 1 := by simp [rndBeg]
      generalize hLL : rndLoop (rndF cs d) (rndBeg cs l paid b) = L at hL0 hLs hnode hloop
      refine SemC.loopR (σ := Nat) (fun i => St.ofD [(0, .own 1000000000), (1, .own 196), (2, .t (.i ((d + 1 : Nat) : Int))), (7, .t (.i l.length)), (10, .own 197), (11, .t (.i ((K : Int) - i)))] [(1000000000, .box [bytes cs, .i (L i).1.2.1, .i (L i).1.2.2]), (196, nodesO (L i).1.1), (197, intsO (L i).2)] 1000000001) (fun i => i ≤ K) (fun i => 3 - i) 0 (Weak.ofD _ _ _ [some 1000000000, some 56, some 57] (by simp) (by simp) rfl ?_ ?_) (by omega) fun i hi R hn' hr he => ?_
      · simp -implicitDefEqProofs only [ints, rows, Nat.reduceBEq, wkR, Nat.reduceEqDiff, ↓reduceIte, wrR, hwq, Int.sub_zero, Int.natCast_zero, Int.cast_ofNat_Int, show l.length * 5 / 5 = l.length by omega]
      · rw [hL0]; exact ⟨⟨_, rfl, .refl _⟩, rfl, ⟨_, rfl, .refl _⟩, rfl, ⟨_, rfl, .refl _⟩, rfl, trivial⟩
      obtain ⟨i1, i2, i3, i4, i5⟩ := hloop i hi
      rw [hl0] at i1 i3
      have hi3 := Nat.mul_le_mul_right (rndN d) (show i ≤ 3 by omega)
      have hml : (chunk nodeCO (L i).1.1).length / 5 = (L i).1.1.length := chunk_div nodeCO_len (by decide) _
      have hml5 : (chunk nodeCO (L i).1.1).length = (L i).1.1.length * 5 := chunk_length nodeCO_len _
      rcases Nat.lt_or_ge i K with h9 | h9
      · simp -implicitDefEqProofs only [go_sem, evR, ints, rows, rat, rats, nodesO, intsO, hml, hml5, decide_eq_true (show 0 < (K : Int) - (i : Int) by omega), List.length_map]
        have hi4 := Nat.mul_le_mul_right (rndN d) (show i + 1 ≤ 3 by omega)
        rw [Nat.add_mul, Nat.one_mul] at hi4
        refine ⟨by omega, ?_⟩
        simp only [hwd]
        have hrec := spec_l20Random_ok cs hc hl B hB0 d (L i).1.1 (L i).1.2 i4 ⟨by omega, i2⟩ (by omega)
        simp only [nodesO] at hrec
        refine CallW.ref hrec [1000000000, 196] [] rfl Try.call199 (by simp) ?_ (by simp) ?_ (.inl rfl) ?_
        · simp -implicitDefEqProofs only [srR, Nat.reduceEqDiff, ↓reduceIte, ints, rows, intsO, rowsO]
        · simp -implicitDefEqProofs only [agR, Nat.reduceLeDiff, Nat.reduceSub, vaR, go_sem, ints, rows, rat, rats, ratsO, rtR, intsO, rowsO]
        simp -implicitDefEqProofs only [clR, Nat.reduceLeDiff, go_sem, evR, rat]
        refine hn' _ (i + 1) (Weak.ofD _ _ _ [some 1000000000, some 74, some 69] (by simp) (by simp) rfl ?_ ?_) (by omega) (by omega)
        · simp -implicitDefEqProofs only [ints, rows, Nat.reduceBEq, wkR, Nat.reduceEqDiff, ↓reduceIte, wrR, show IntKind.i64.wrap ((K : Int) - (i : Int) - 1) = (K : Int) - ((i + 1 : Nat) : Int) by rw [wrap64 (by omega) (by omega)]; omega]
        · rw [hLs]
          refine ⟨⟨_, rfl, .refl _⟩, rfl, ⟨_, rfl, .refl _⟩, rfl, ⟨_, rfl, ?_⟩, rfl, trivial⟩
          simp only [rndStep, intsO, List.map_append, List.map_cons, List.map_nil, show (L i).1.1.length * 5 / 5 = (L i).1.1.length by omega]; exact .refl _
      · simp -implicitDefEqProofs only [go_sem, evR, ints, rows, rat, rats, nodesO, intsO, hml, hml5, decide_eq_false (show ¬ 0 < (K : Int) - (i : Int) by omega), List.length_map]
        refine he _ _ ?_
        simp -implicitDefEqProofs only [go_sem, evR, ints, rows, rat, rats, nodesO, intsO, hml, hml5]
        obtain rfl : i = K := by omega
        obtain ⟨z, hz⟩ : ∃ z, (L i).1.1[l.length]? = some z := ⟨_, List.getElem?_eq_getElem (by omega)⟩
        refine ⟨by omega, by omega, by omega, ?_⟩
        rw [hF, hnode]
        refine ⟨rfl, .inl ?_⟩
        simp only [setCh, hz]
        rw [← chunk_ch (L i).1.1 l.length z _ hz]; rfl
    · refine CallW.ref (next_box cs hc hl b hs2 3 (by omega)) [1000000000] [] rfl Try.call126 (by simp) ?_ (by simp) ?_ (.inl rfl) ?_
      · simp -implicitDefEqProofs only [srR, Nat.reduceEqDiff, ↓reduceIte, ints, rows, intsO, rowsO]
      · simp -implicitDefEqProofs only [agR, Nat.reduceLeDiff, Nat.reduceSub, vaR, go_sem, ints, rows, rat, rats, ratsO, rtR, intsO, rowsO]
      simp -implicitDefEqProofs only [clR, Nat.reduceLeDiff, go_sem, evR, rat]
      have hs3 := nextS_seed (cs := cs) hl hs2 3
      generalize hz3 : nextS cs b 3 = z at hs3 ⊢
      obtain ⟨f, b3⟩ := z
      simp only [] at hs3 ⊢
      have hF := (show rndF cs (d + 1) (l, a) = rndEnd cs l (paid, b) by rw [rndF, if_pos (show 30 < l.length by omega), hz])
      refine ⟨fun h => ?_, fun h => ?_⟩
      · refine CallW.ref (next_box cs hc hl b3 hs3 6 (by omega)) [1000000000] [] rfl Try.call126 (by simp) ?_ (by simp) ?_ (.inl rfl) ?_
        · simp -implicitDefEqProofs only [srR, Nat.reduceEqDiff, ↓reduceIte, ints, rows, intsO, rowsO]
        · simp -implicitDefEqProofs only [agR, Nat.reduceLeDiff, Nat.reduceSub, vaR, go_sem, ints, rows, rat, rats, ratsO, rtR, intsO, rowsO]
        simp -implicitDefEqProofs only [clR, Nat.reduceLeDiff, go_sem, evR, rat]
        have hE : rndEnd cs l (paid, b) = (l ++ [⟨2, paid, (nextS cs b3 6).1, IntKind.i64.wrap (f - 1), []⟩], (nextS cs b3 6).2) := by
          simp only [rndEnd, hz3]; exact if_pos h
        rw [hF, hE]
        exact ⟨by omega, rfl, .inr ⟨paid, _, _, rfl, rfl⟩⟩
      · have hE : rndEnd cs l (paid, b) = (l ++ [⟨2, paid, paid, IntKind.i64.wrap (f - 1), []⟩], b3) := by
          simp only [rndEnd, hz3]; exact if_neg h
        rw [hF, hE]
        exact ⟨by omega, rfl, .inr ⟨paid, _, _, rfl, rfl⟩⟩
end
end Go.Ab

/- Functions in compact form, with hints. -/
set_option linter.unusedVariables false
namespace Go.Ab
open Go.Proofs

def c_spec_l22Draw_h : CC :=
 (.seq (.reg [.o (.alloc 4 [.v (.slice none 0 0), .v (.slice none 0 0), .v (.slice none 0 0)]),
 .o (.alloc 5 [.v (.int .i64 0), .v (.slice none 0 0)])])
 ((.seq (.reg [.o (.move 8 (sl 0)),
 .o (.call (some 9) (cf 190) [(sl 8)]),
 .o (.alloc 6 [.v (.slice none 0 0), .v (.slice none 0 0), .v (.slice none 0 0)]),
 .o (.store 3 (sl 6) (sl 9))])
 ((.seq (.seq (.weak (.reg [.o (.loadN 10 3 (sl 6)),
 .o (.call (some 11) (cf 139) [(sl 10)]),
 .o (.un 12 .not (sl 11))]))
 ((.cond (sl 12) (.seq (.reg [.o (.loadN 13 3 (sl 6)),
 .o (.move 14 (sl 1)),
 .o (.build 15 [.v (.int .i64 0), .v (.slice none 0 0)] [(0, 1), (1, 1)] [(0, (sl 14))]),
 .o (.store 3 (sl 4) (sl 13)),
 .o (.store 2 (sl 5) (sl 15))])
 (.ret))
 .skip)))
 ((.seq (.reg [.o (.move 16 (sl 0)),
 .o (.loadN 17 3 (sl 6)),
 .o (.move 18 (sl 1)),
 .o (.call (some 19) (cf 141) [(sl 16), (sl 17), (sl 18)]),
 .o (.alloc 7 [.v (.int .i64 0), .v (.slice none 0 0)]),
 .o (.store 2 (sl 7) (sl 19))])
 ((.seq (.seq (.reg [.o (.move 20 (sl 0)),
 .o (.call (some 21) (cf 126) [(sl 20), (ci 20)])])
 ((.block 0 (.seq (.reg [.o (.bin 23 .eql (sl 21) (ci 0)),
 .o (.move 22 (sl 23))])
 ((.cond (sl 22) (.seq (.reg [.o (.fld 24 1 (sl 7)),
 .o (.load1 25 (sl 24)),
 .o (.lenS 26 (sl 25)),
 .o (.bin 27 .gtr (sl 26) (ci 0))])
 ((.cond (sl 27) (.weak (.draw [39] [(.r false [1000000000, 40, 39], .o (.fld 28 1 (sl 7))),
 (.r false [1000000000, 40, 39], .o (.load1 29 (sl 28))),
 (.r false [1000000000, 40, 39], .o (.idx 30 1 (sl 29) (ci 0))),
 (.r false [1000000000, 40, 39], .o (.load1 31 (sl 30))),
 (.r false [1000000000, 40, 39], .o (.fld 32 1 (sl 7))),
 (.r false [1000000000, 40, 39], .o (.load1 33 (sl 32))),
 (.r false [1000000000, 40, 39], .o (.idx 34 1 (sl 33) (ci 0))),
 (.r false [1000000000, 40, 39], .o (.load1 35 (sl 34))),
 (.r false [1000000000, 40, 39], .o (.idx 36 1 (sl 35) (ci 0))),
 (.r false [1000000000, 40, 39], .o (.load1 37 (sl 36))),
 (kR, .o (.move 38 (sl 0))),
 (kN, .o (.bslice 39 1 3 [(0, (ci (-1))), (1, (ci 1)), (2, (ci 60))])),
 (.h (some [1000000000, 39]) [], .o (.call (some 40) (cf 147) [(sl 38), (sl 39)])),
 (kR, .o (.bin 41 .add (sl 37) (sl 40))),
 (kR, .o (.idx 42 1 (sl 31) (ci 0))),
 (kH, .o (.store 1 (sl 42) (sl 41)))]))
 .skip)))
 (.seq (.reg [.o (.bin 44 .eql (sl 21) (ci 1)),
 .o (.move 43 (sl 44))])
 ((.cond (sl 43) (.reg [.o (.move 45 (sl 0)),
 .o (.move 46 (sl 1)),
 .o (.bin 47 .sub (ci 1) (sl 46)),
 .o (.bslice 48 1 3 [(0, (ci (-1))), (1, (sl 47)), (2, (ci 2))]),
 .o (.call (some 49) (cf 147) [(sl 45), (sl 48)]),
 .o (.fld 50 0 (sl 7)),
 .o (.store 1 (sl 50) (sl 49))])
 (.seq (.reg [.o (.bin 52 .eql (sl 21) (ci 2)),
 .o (.move 51 (sl 52))])
 ((.cond (sl 51) (.reg [.o (.fld 53 1 (sl 7)),
 .o (.load1 54 (sl 53)),
 .o (.bslice 55 1 1 [(0, (ci 60))]),
 .o (.bslice 56 1 1 [(0, (sl 55))]),
 .o (.app 57 1 24 (sl 54) (sl 56)),
 .o (.fld 58 1 (sl 7)),
 .o (.store 1 (sl 58) (sl 57))])
 .skip))))))))))))
 ((.seq (.weak (.draw [] [(kR, .o (.loadN 59 3 (sl 6))),
 (.r false [4], .o (.loadN 60 2 (sl 7))),
 (.h (some [4]) [], .o (.store 3 (sl 4) (sl 59))),
 (kH, .o (.store 2 (sl 5) (sl 60)))]))
 (.ret))))))))))))
theorem fun_spec_l22Draw_h {rin : List T} {args : List A} {Q : List T → T → Prop} (ha : args.length ≤ 61) (h : cW Try.prog 61 c_spec_l22Draw_h (retP Try.prog [.cell 4 35, .cell 5 47] rin.length Q) (St.of (enum 0 args) (enum 1000000000 rin))) :
    Fun Try.prog 133 rin args Q :=
  Fun.of (H := ⟨[(8, 0, .r false [1000000000, 40, 39]), (8, 1, .r false [1000000000, 40, 39]), (8, 2, .r false [1000000000, 40, 39]), (8, 3, .r false [1000000000, 40, 39]), (8, 4, .r false [1000000000, 40, 39]), (8, 5, .r false [1000000000, 40, 39]), (8, 6, .r false [1000000000, 40, 39]), (8, 7, .r false [1000000000, 40, 39]), (8, 8, .r false [1000000000, 40, 39]), (8, 9, .r false [1000000000, 40, 39]), (8, 12, .h (some [1000000000, 39]) []), (13, 1, .r false [4]), (13, 2, .h (some [4]) [])], [2, 8, 13]⟩) Try.func133 rfl rfl rfl (by kernel_rfl) ha (by decide) h

def c_spec_l21Draw_h : CC :=
 (.seq (.reg [.o (.alloc 2 [.v (.slice none 0 0), .v (.slice none 0 0), .v (.slice none 0 0)])])
 ((.seq (.reg [.o (.move 5 (sl 0)),
 .o (.call (some 6) (cf 222) [(sl 5)]),
 .o (.alloc 3 [.v (.slice none 0 0), .v (.slice none 0 0), .v (.slice none 0 0)]),
 .o (.store 3 (sl 3) (sl 6))])
 ((.seq (.reg [.o (.move 7 (sl 0)),
 .o (.fld 8 1 (sl 3)),
 .o (.load1 9 (sl 8)),
 .o (.lenS 10 (sl 9)),
 .o (.call (some 11) (cf 126) [(sl 7), (sl 10)]),
 .o (.move 4 (sl 11))])
 ((.seq (.seq (.reg [.o (.move 12 (sl 0)),
 .o (.call (some 13) (cf 126) [(sl 12), (ci 24)])])
 ((.block 0 (.seq (.reg [.o (.bin 15 .eql (sl 13) (ci 0)),
 .o (.move 14 (sl 15))])
 ((.cond (sl 14) (.weak (.draw [22] [(.r false [1000000000, 23, 22], .o (.fld 16 1 (sl 3))),
 (.r false [1000000000, 23, 22], .o (.load1 17 (sl 16))),
 (.r false [1000000000, 23, 22], .o (.move 18 (sl 4))),
 (.r false [1000000000, 23, 22], .o (.idx 19 1 (sl 17) (sl 18))),
 (.r false [1000000000, 23, 22], .o (.load1 20 (sl 19))),
 (kR, .o (.move 21 (sl 0))),
 (kN, .o (.bslice 22 1 4 [(0, (ci (-1))), (1, (ci 0)), (2, (ci 9)), (3, (ci 10))])),
 (.h (some [1000000000, 22]) [], .o (.call (some 23) (cf 147) [(sl 21), (sl 22)])),
 (kR, .o (.idx 24 1 (sl 20) (ci 0))),
 (kH, .o (.store 1 (sl 24) (sl 23)))]))
 (.seq (.reg [.o (.bin 26 .eql (sl 13) (ci 1)),
 .o (.move 25 (sl 26))])
 ((.cond (sl 25) (.weak (.draw [33] [(.r false [1000000000, 34, 33], .o (.fld 27 2 (sl 3))),
 (.r false [1000000000, 34, 33], .o (.load1 28 (sl 27))),
 (.r false [1000000000, 34, 33], .o (.move 29 (sl 4))),
 (.r false [1000000000, 34, 33], .o (.idx 30 1 (sl 28) (sl 29))),
 (.r false [1000000000, 34, 33], .o (.load1 31 (sl 30))),
 (kR, .o (.move 32 (sl 0))),
 (kN, .o (.bslice 33 1 2 [(0, (ci (-2))), (1, (ci 2))])),
 (.h (some [1000000000, 33]) [], .o (.call (some 34) (cf 147) [(sl 32), (sl 33)])),
 (kR, .o (.idx 35 1 (sl 31) (ci 0))),
 (kH, .o (.store 1 (sl 35) (sl 34)))]))
 (.seq (.reg [.o (.bin 37 .eql (sl 13) (ci 2)),
 .o (.move 36 (sl 37))])
 ((.cond (sl 36) (.seq (.weak (.draw [] [(kR, .o (.fld 38 0 (sl 3))),
 (kR, .o (.loadN 39 1 (sl 38))),
 (kR, .o (.fld 40 1 (sl 3))),
 (kR, .o (.load1 41 (sl 40))),
 (kR, .o (.fld 42 2 (sl 3))),
 (kR, .o (.load1 43 (sl 42))),
 (kR, .o (.slc 44 1 (sl 43) (some (ci 1)) none)),
 (kR, .o (.build 45 [.v (.slice none 0 0), .v (.slice none 0 0), .v (.slice none 0 0)] [(0, 1), (1, 1), (2, 1)] [(0, (sl 39)), (1, (sl 41)), (2, (sl 44))])),
 (kH, .o (.store 3 (sl 2) (sl 45)))]))
 (.ret))
 (.seq (.reg [.o (.bin 47 .eql (sl 13) (ci 3)),
 .o (.move 46 (sl 47))])
 ((.cond (sl 46) (.seq (.weak (.draw [] [(kR, .o (.move 48 (sl 0))),
 (.h (some [1000000000]) [], .o (.call (some 49) (cf 223) [(sl 48)])),
 (.r false [1000000000, 49], .o (.fld 50 1 (sl 3))),
 (.r false [1000000000, 49], .o (.load1 51 (sl 50))),
 (.r false [1000000000, 49], .o (.fld 52 2 (sl 3))),
 (.r false [1000000000, 49], .o (.load1 53 (sl 52))),
 (kR, .o (.build 54 [.v (.slice none 0 0), .v (.slice none 0 0), .v (.slice none 0 0)] [(0, 1), (1, 1), (2, 1)] [(0, (sl 49)), (1, (sl 51)), (2, (sl 53))])),
 (kH, .o (.store 3 (sl 2) (sl 54)))]))
 (.ret))
 .skip)))))))))))))))
 ((.seq (.weak (.reg [.o (.loadN 55 3 (sl 3)),
 .o (.store 3 (sl 2) (sl 55))]))
 (.ret))))))))))
theorem fun_spec_l21Draw_h {rin : List T} {args : List A} {Q : List T → T → Prop} (ha : args.length ≤ 56) (h : cW Try.prog 56 c_spec_l21Draw_h (retP Try.prog [.cell 2 35] rin.length Q) (St.of (enum 0 args) (enum 1000000000 rin))) :
    Fun Try.prog 190 rin args Q :=
  Fun.of (H := ⟨[(5, 0, .r false [1000000000, 23, 22]), (5, 1, .r false [1000000000, 23, 22]), (5, 2, .r false [1000000000, 23, 22]), (5, 3, .r false [1000000000, 23, 22]), (5, 4, .r false [1000000000, 23, 22]), (5, 7, .h (some [1000000000, 22]) []), (7, 0, .r false [1000000000, 34, 33]), (7, 1, .r false [1000000000, 34, 33]), (7, 2, .r false [1000000000, 34, 33]), (7, 3, .r false [1000000000, 34, 33]), (7, 4, .r false [1000000000, 34, 33]), (7, 7, .h (some [1000000000, 33]) []), (11, 2, .r false [1000000000, 49]), (11, 3, .r false [1000000000, 49]), (11, 4, .r false [1000000000, 49]), (11, 5, .r false [1000000000, 49]), (11, 1, .h (some [1000000000]) [])], [5, 7, 9, 11, 12]⟩) Try.func190 rfl rfl rfl (by kernel_rfl) ha (by decide) h

def c_spec_l21Valid_h : CC :=
 (.seq (.reg [.o (.alloc 2 [.v (.slice none 0 0), .v (.slice none 0 0), .v (.slice none 0 0)])])
 ((.seq (.seq (.reg [.o (.move 7 (sl 0)),
 .o (.call (some 8) (cf 126) [(sl 7), (ci 6)])])
 ((.block 0 (.seq (.reg [.o (.bin 10 .eql (sl 8) (ci 0)),
 .o (.move 9 (sl 10))])
 ((.cond (sl 9) (.seq (.reg [.o (.call (some 11) (cf 127) []),
 .o (.store 3 (sl 2) (sl 11))])
 (.ret))
 (.seq (.reg [.o (.bin 13 .eql (sl 8) (ci 1)),
 .o (.move 12 (sl 13))])
 ((.cond (sl 12) (.seq (.reg [.o (.move 14 (sl 0)),
 .o (.call (some 15) (cf 227) [(sl 14)]),
 .o (.move 16 (sl 0)),
 .o (.call (some 17) (cf 126) [(sl 16), (ci 2)]),
 .o (.bin 18 .add (ci 2) (sl 17)),
 .o (.call (some 19) (cf 185) [(sl 15), (sl 18), (cb true)]),
 .o (.store 3 (sl 2) (sl 19))])
 (.ret))
 .skip)))))))))
 ((.seq (.reg [.o (.move 20 (sl 0)),
 .o (.call (some 21) (cf 126) [(sl 20), (ci 3)]),
 .o (.bin 22 .add (ci 1) (sl 21)),
 .o (.move 3 (sl 22))])
 ((.seq (.reg [.o (.move 23 (sl 0)),
 .o (.call (some 24) (cf 227) [(sl 23)]),
 .o (.move 25 (sl 3)),
 .o (.call (some 26) (cf 185) [(sl 24), (sl 25), (cb true)]),
 .o (.alloc 4 [.v (.slice none 0 0), .v (.slice none 0 0), .v (.slice none 0 0)]),
 .o (.store 3 (sl 4) (sl 26))])
 ((.seq (.seq (.reg [.o (.move 5 (ci 0))])
 ((.block 1 (.loop (.seq (.seq (.reg [.o (.move 27 (sl 5)),
 .o (.move 28 (sl 3)),
 .o (.bin 29 .lss (sl 27) (sl 28))])
 ((.cond (sl 29) .skip
 (.exit 1))))
 ((.seq (.block 2 (.seq (.reg [.o (.move 6 (ci 0))])
 ((.block 3 (.loop (.seq (.seq (.reg [.o (.move 32 (sl 6)),
 .o (.move 33 (sl 3)),
 .o (.bin 34 .lss (sl 32) (sl 33))])
 ((.cond (sl 34) .skip
 (.exit 3))))
 ((.seq (.block 4 (.seq (.weak (.draw [] [(.r false [1000000000, 44], .o (.fld 37 1 (sl 4))),
 (.r false [1000000000, 44], .o (.load1 38 (sl 37))),
 (.r false [1000000000, 44], .o (.move 39 (sl 5))),
 (.r false [1000000000, 44], .o (.idx 40 1 (sl 38) (sl 39))),
 (.r false [1000000000, 44], .o (.load1 41 (sl 40))),
 (.r false [1000000000, 44], .o (.move 42 (sl 6))),
 (kR, .o (.move 43 (sl 0))),
 (.h (some [1000000000]) [], .o (.call (some 44) (cf 126) [(sl 43), (ci 4)])),
 (kR, .o (.idx 45 1 (sl 41) (sl 42))),
 (kH, .o (.store 1 (sl 45) (sl 44)))]))
 ((.seq (.reg [.o (.move 46 (sl 0)),
 .o (.call (some 47) (cf 126) [(sl 46), (ci 4)]),
 .o (.bin 48 .eql (sl 47) (ci 0))])
 ((.cond (sl 48) (.weak (.draw [] [(.r false [1000000000, 56], .o (.fld 49 2 (sl 4))),
 (.r false [1000000000, 56], .o (.load1 50 (sl 49))),
 (.r false [1000000000, 56], .o (.move 51 (sl 5))),
 (.r false [1000000000, 56], .o (.idx 52 1 (sl 50) (sl 51))),
 (.r false [1000000000, 56], .o (.load1 53 (sl 52))),
 (.r false [1000000000, 56], .o (.move 54 (sl 6))),
 (kR, .o (.move 55 (sl 0))),
 (.h (some [1000000000]) [], .o (.call (some 56) (cf 126) [(sl 55), (ci 3)])),
 (kR, .o (.bin 57 .sub (sl 56) (ci 1))),
 (kR, .o (.idx 58 1 (sl 53) (sl 54))),
 (kH, .o (.store 1 (sl 58) (sl 57)))]))
 .skip))))))
 ((.reg [.o (.move 35 (sl 6)),
 .o (.bin 36 .add (sl 35) (ci 1)),
 .o (.move 6 (sl 36))]))))))))))
 ((.reg [.o (.move 30 (sl 5)),
 .o (.bin 31 .add (sl 30) (ci 1)),
 .o (.move 5 (sl 31))])))))))))
 ((.seq (.weak (.draw [] [(kR, .o (.fld 59 1 (sl 4))),
 (kR, .o (.load1 60 (sl 59))),
 (kR, .o (.idx 61 1 (sl 60) (ci 0))),
 (kR, .o (.load1 62 (sl 61))),
 (kR, .o (.fld 63 1 (sl 4))),
 (kR, .o (.load1 64 (sl 63))),
 (kR, .o (.idx 65 1 (sl 64) (ci 0))),
 (kR, .o (.load1 66 (sl 65))),
 (kR, .o (.idx 67 1 (sl 66) (ci 0))),
 (kR, .o (.load1 68 (sl 67))),
 (kR, .o (.mm 69 true (ci 1) (sl 68))),
 (kR, .o (.idx 70 1 (sl 62) (ci 0))),
 (kH, .o (.store 1 (sl 70) (sl 69)))]))
 ((.seq (.weak (.reg [.o (.loadN 71 3 (sl 4)),
 .o (.store 3 (sl 2) (sl 71))]))
 (.ret))))))))))))))
theorem fun_spec_l21Valid_h {rin : List T} {args : List A} {Q : List T → T → Prop} (ha : args.length ≤ 72) (h : cW Try.prog 72 c_spec_l21Valid_h (retP Try.prog [.cell 2 35] rin.length Q) (St.of (enum 0 args) (enum 1000000000 rin))) :
    Fun Try.prog 222 rin args Q :=
  Fun.of (H := ⟨[(14, 0, .r false [1000000000, 44]), (14, 1, .r false [1000000000, 44]), (14, 2, .r false [1000000000, 44]), (14, 3, .r false [1000000000, 44]), (14, 4, .r false [1000000000, 44]), (14, 5, .r false [1000000000, 44]), (14, 7, .h (some [1000000000]) []), (16, 0, .r false [1000000000, 56]), (16, 1, .r false [1000000000, 56]), (16, 2, .r false [1000000000, 56]), (16, 3, .r false [1000000000, 56]), (16, 4, .r false [1000000000, 56]), (16, 5, .r false [1000000000, 56]), (16, 7, .h (some [1000000000]) [])], [14, 16, 17, 18]⟩) Try.func222 rfl rfl rfl (by kernel_rfl) ha (by decide) h

def c_spec_l20Draw_h : CC :=
 (.seq (.reg [.o (.alloc 2 [.v (.slice none 0 0)])])
 ((.seq (.reg [.o (.move 5 (sl 0)),
 .o (.call (some 6) (cf 227) [(sl 5)]),
 .o (.alloc 3 [.v (.slice none 0 0)]),
 .o (.store 1 (sl 3) (sl 6))])
 ((.seq (.reg [.o (.move 7 (sl 0)),
 .o (.fld 8 0 (sl 3)),
 .o (.load1 9 (sl 8)),
 .o (.lenS 10 (sl 9)),
 .o (.call (some 11) (cf 126) [(sl 7), (sl 10)]),
 .o (.move 4 (sl 11))])
 ((.seq (.seq (.reg [.o (.move 12 (sl 0)),
 .o (.call (some 13) (cf 126) [(sl 12), (ci 30)])])
 ((.block 0 (.seq (.reg [.o (.bin 15 .eql (sl 13) (ci 0)),
 .o (.move 14 (sl 15))])
 ((.cond (sl 14) (.draw [20] [(.r false [1000000000, 21, 20], .o (.fld 16 0 (sl 3))),
 (.r false [1000000000, 21, 20], .o (.load1 17 (sl 16))),
 (.r false [1000000000, 21, 20], .o (.move 18 (sl 4))),
 (kR, .o (.move 19 (sl 0))),
 (kN, .o (.bslice 20 1 5 [(0, (ci (-1))), (1, (ci 0)), (2, (ci 1)), (3, (ci 2)), (4, (ci 3))])),
 (.h (some [1000000000, 20]) [], .o (.call (some 21) (cf 147) [(sl 19), (sl 20)])),
 (kR, .o (.idx 22 5 (sl 17) (sl 18))),
 (kR, .o (.fld 23 0 (sl 22))),
 (kH, .o (.store 1 (sl 23) (sl 21)))])
 (.seq (.reg [.o (.bin 25 .eql (sl 13) (ci 1)),
 .o (.move 24 (sl 25))])
 ((.cond (sl 24) (.draw [30] [(.r false [1000000000, 31, 30], .o (.fld 26 0 (sl 3))),
 (.r false [1000000000, 31, 30], .o (.load1 27 (sl 26))),
 (.r false [1000000000, 31, 30], .o (.move 28 (sl 4))),
 (kR, .o (.move 29 (sl 0))),
 (kN, .o (.bslice 30 1 4 [(0, (ci (-1))), (1, (ci 0)), (2, (ci 100)), (3, (ci 101))])),
 (.h (some [1000000000, 30]) [], .o (.call (some 31) (cf 147) [(sl 29), (sl 30)])),
 (kR, .o (.idx 32 5 (sl 27) (sl 28))),
 (kR, .o (.fld 33 1 (sl 32))),
 (kH, .o (.store 1 (sl 33) (sl 31)))])
 (.seq (.reg [.o (.bin 35 .eql (sl 13) (ci 2)),
 .o (.move 34 (sl 35))])
 ((.cond (sl 34) (.draw [40] [(.r false [1000000000, 41, 40], .o (.fld 36 0 (sl 3))),
 (.r false [1000000000, 41, 40], .o (.load1 37 (sl 36))),
 (.r false [1000000000, 41, 40], .o (.move 38 (sl 4))),
 (kR, .o (.move 39 (sl 0))),
 (kN, .o (.bslice 40 1 4 [(0, (ci (-2))), (1, (ci (-1))), (2, (ci 0)), (3, (ci 2))])),
 (.h (some [1000000000, 40]) [], .o (.call (some 41) (cf 147) [(sl 39), (sl 40)])),
 (kR, .o (.idx 42 5 (sl 37) (sl 38))),
 (kR, .o (.fld 43 3 (sl 42))),
 (kH, .o (.store 1 (sl 43) (sl 41)))])
 (.seq (.reg [.o (.bin 45 .eql (sl 13) (ci 3)),
 .o (.move 44 (sl 45))])
 ((.cond (sl 44) (.reg [.o (.fld 46 0 (sl 3)),
 .o (.load1 47 (sl 46)),
 .o (.bslice 48 1 2 [(0, (ci 1)), (1, (ci 1))]),
 .o (.idx 49 5 (sl 47) (ci 0)),
 .o (.fld 50 4 (sl 49)),
 .o (.store 1 (sl 50) (sl 48))])
 (.seq (.reg [.o (.bin 52 .eql (sl 13) (ci 4)),
 .o (.move 51 (sl 52))])
 ((.cond (sl 51) (.seq (.weak (.reg [.o (.fld 53 0 (sl 3)),
 .o (.load1 54 (sl 53)),
 .o (.move 55 (sl 4)),
 .o (.slc 56 5 (sl 54) none (some (sl 55))),
 .o (.build 57 [.v (.slice none 0 0)] [(0, 1)] [(0, (sl 56))]),
 .o (.store 1 (sl 2) (sl 57))]))
 (.ret))
 (.seq (.reg [.o (.bin 59 .eql (sl 13) (ci 5)),
 .o (.move 58 (sl 59))])
 ((.cond (sl 58) (.seq (.weak (.draw [] [(.h (some []) [72], .o (.bslice 60 5 0 [])),
 (.r false [60, 63, 72], .o (.fld 61 0 (sl 3))),
 (.r false [60, 63, 72], .o (.load1 62 (sl 61))),
 (.h (some [60]) [72], .o (.app 63 5 56 (sl 60) (sl 62))),
 (.r false [60, 63, 72], .o (.fld 64 0 (sl 3))),
 (.r false [60, 63, 72], .o (.load1 65 (sl 64))),
 (.r false [60, 63, 72], .o (.fld 66 0 (sl 3))),
 (.r false [60, 63, 72], .o (.load1 67 (sl 66))),
 (.r false [60, 63, 72], .o (.lenS 68 (sl 67))),
 (.r false [60, 63, 72], .o (.bin 69 .sub (sl 68) (ci 1))),
 (.r false [60, 63, 72], .o (.idx 70 5 (sl 65) (sl 69))),
 (.r false [60, 63, 72], .o (.loadN 71 5 (sl 70))),
 (.h (some []) [60, 63], .o (.bslice 72 5 1 [(0, (sl 71))])),
 (kH, .o (.app 73 5 56 (sl 63) (sl 72))),
 (kR, .o (.build 74 [.v (.slice none 0 0)] [(0, 1)] [(0, (sl 73))])),
 (kH, .o (.store 1 (sl 2) (sl 74)))]))
 (.ret))
 .skip)))))))))))))))))))))
 ((.seq (.weak (.reg [.o (.loadN 75 1 (sl 3)),
 .o (.store 1 (sl 2) (sl 75))]))
 (.ret))))))))))
theorem fun_spec_l20Draw_h {rin : List T} {args : List A} {Q : List T → T → Prop} (ha : args.length ≤ 76) (h : cW Try.prog 76 c_spec_l20Draw_h (retP Try.prog [.cell 2 33] rin.length Q) (St.of (enum 0 args) (enum 1000000000 rin))) :
    Fun Try.prog 223 rin args Q :=
  Fun.of (H := ⟨[(5, 0, .r false [1000000000, 21, 20]), (5, 1, .r false [1000000000, 21, 20]), (5, 2, .r false [1000000000, 21, 20]), (5, 5, .h (some [1000000000, 20]) []), (7, 0, .r false [1000000000, 31, 30]), (7, 1, .r false [1000000000, 31, 30]), (7, 2, .r false [1000000000, 31, 30]), (7, 5, .h (some [1000000000, 30]) []), (9, 0, .r false [1000000000, 41, 40]), (9, 1, .r false [1000000000, 41, 40]), (9, 2, .r false [1000000000, 41, 40]), (9, 5, .h (some [1000000000, 40]) []), (15, 0, .h (some []) [72]), (15, 3, .h (some [60]) [72]), (15, 12, .h (some []) [60, 63]), (15, 1, .r false [60, 63, 72]), (15, 2, .r false [60, 63, 72]), (15, 4, .r false [60, 63, 72]), (15, 5, .r false [60, 63, 72]), (15, 6, .r false [60, 63, 72]), (15, 7, .r false [60, 63, 72]), (15, 8, .r false [60, 63, 72]), (15, 9, .r false [60, 63, 72]), (15, 10, .r false [60, 63, 72]), (15, 11, .r false [60, 63, 72])], [13, 15, 16]⟩) Try.func223 rfl rfl rfl (by kernel_rfl) ha (by decide) h

end Go.Ab

/- Contracts: the shape of drawn trees, part 3. -/
set_option linter.unusedSimpArgs false
set_option linter.unusedVariables false
namespace Go.Ab
open Go.Proofs
section
attribute [-go_sem] load1C load1V fldC lenC idxC loadNV nilCheckW
set_option maxRecDepth 20000 in
theorem spec_l20Valid_ok (cs : List Int) (hc : bytesOK cs) (hl : cs.length ≤ 100000000000) (a : Nat × Int) (ha : seedOK a) : ∃ x : List Nd × (Nat × Int), (smallN 100 x.1 ∧ 0 < x.1.length ∧ seedOK x.2) ∧ Fun Try.prog 227 [.box [bytes cs, .i a.1, .i a.2]] [.own 1000000000] fun o r => o = [.box [bytes cs, .i x.2.1, .i x.2.2]] ∧ r = .agg [nodesO x.1] := by
  have hs1 := nextS_seed (cs := cs) hl ha 5
  by_cases q0 : (nextS cs a 5).1 = 0
  · obtain ⟨g1, g2, g3⟩ := rndF_ok (cs := cs) hl 3 [] (nextS cs a 5).2 hs1 (by simp)
    refine ⟨rndF cs 3 ([], (nextS cs a 5).2), ⟨⟨Nat.le_trans g1.1 (by decide), g1.2⟩, by simpa using g2, g3⟩, ?_⟩
    refine fun_spec_l20Valid (by simp) ?_
    simp -implicitDefEqProofs only [go_sem, evR, ints, rows, rat, rats, c_spec_l20Valid]
    refine CallW.ref (next_box cs hc hl a ha 5 (by omega)) [1000000000] [] rfl Try.call126 (by simp) ?_ (by simp) ?_ (.inl rfl) ?_
    · simp -implicitDefEqProofs only [srR, Nat.reduceEqDiff, ↓reduceIte, ints, rows, intsO, rowsO]
    · simp -implicitDefEqProofs only [agR, Nat.reduceLeDiff, Nat.reduceSub, vaR, go_sem, ints, rows, rat, rats, ratsO, rtR, intsO, rowsO]
    simp -implicitDefEqProofs only [clR, Nat.reduceLeDiff, go_sem, evR, rat]
    generalize nextS cs a 5 = z at q0 hs1 ⊢
    obtain ⟨k, b⟩ := z
    simp only [] at q0 hs1 ⊢
    refine ⟨fun h0 => ?_, fun h0 => absurd h0 (by simp [q0])⟩
    have hp := spec_l20Random_ok cs hc hl 1000 (by omega) 3 [] b hs1 ⟨by simp, by simp⟩ (by decide)
    simp only [nodesO, chunk_nil, show ((3 : Nat) : Int) = 3 from rfl] at hp
    refine CallW.ref hp [1000000000, 12] [] rfl Try.call199 (by simp) ?_ (by simp) ?_ (.inl rfl) ?_
    · simp -implicitDefEqProofs only [srR, Nat.reduceEqDiff, ↓reduceIte, ints, rows, intsO, rowsO]
    · simp -implicitDefEqProofs only [agR, Nat.reduceLeDiff, Nat.reduceSub, vaR, go_sem, ints, rows, rat, rats, ratsO, rtR, intsO, rowsO]
    simp -implicitDefEqProofs only [clR, Nat.reduceLeDiff, go_sem, evR, rat]
    rfl
  · by_cases q1 : (nextS cs a 5).1 = 1
    · have hs2 := nextS_seed (cs := cs) hl hs1 4
      have hb2 := nextS_bound (cs := cs) (a := (nextS cs a 5).2) (n := 4) (by omega)
      have hs3 := nextS_seed (cs := cs) hl hs2 5
      have hb3 := nextS_bound (cs := cs) (a := (nextS cs (nextS cs a 5).2 4).2) (n := 5) (by omega)
      obtain ⟨l', h1', h2', hp⟩ := spec_BetTree_w (nextS cs (nextS cs a 5).2 4).1 (1 + (nextS cs (nextS cs (nextS cs a 5).2 4).2 5).1) 1 (by omega) (by omega) (by omega) (by omega) (by omega)
      refine ⟨(l', (nextS cs (nextS cs (nextS cs a 5).2 4).2 5).2), ⟨h1', h2', hs3⟩, ?_⟩
      refine fun_spec_l20Valid (by simp) ?_
      simp -implicitDefEqProofs only [go_sem, evR, ints, rows, rat, rats, c_spec_l20Valid]
      refine CallW.ref (next_box cs hc hl a ha 5 (by omega)) [1000000000] [] rfl Try.call126 (by simp) ?_ (by simp) ?_ (.inl rfl) ?_
      · simp -implicitDefEqProofs only [srR, Nat.reduceEqDiff, ↓reduceIte, ints, rows, intsO, rowsO]
      · simp -implicitDefEqProofs only [agR, Nat.reduceLeDiff, Nat.reduceSub, vaR, go_sem, ints, rows, rat, rats, ratsO, rtR, intsO, rowsO]
      simp -implicitDefEqProofs only [clR, Nat.reduceLeDiff, go_sem, evR, rat]
      generalize nextS cs a 5 = z at *
      obtain ⟨k, b⟩ := z
      simp only [] at q0 q1 hs1 hs2 hb2 hs3 hb3 hp ⊢
      refine ⟨fun h0 => absurd h0 (by simp [q0]), fun h0 => ⟨fun h1 => ?_, fun h1 => absurd h1 (by simp [q1])⟩⟩
      refine CallW.ref (next_box cs hc hl b hs1 4 (by omega)) [1000000000] [] rfl Try.call126 (by simp) ?_ (by simp) ?_ (.inl rfl) ?_
      · simp -implicitDefEqProofs only [srR, Nat.reduceEqDiff, ↓reduceIte, ints, rows, intsO, rowsO]
      · simp -implicitDefEqProofs only [agR, Nat.reduceLeDiff, Nat.reduceSub, vaR, go_sem, ints, rows, rat, rats, ratsO, rtR, intsO, rowsO]
      simp -implicitDefEqProofs only [clR, Nat.reduceLeDiff, go_sem, evR, rat]
      generalize nextS cs b 4 = z at *
      obtain ⟨p, b2⟩ := z
      simp only [] at hs2 hb2 hs3 hb3 hp ⊢
      refine CallW.ref (next_box cs hc hl b2 hs2 5 (by omega)) [1000000000] [] rfl Try.call126 (by simp) ?_ (by simp) ?_ (.inl rfl) ?_
      · simp -implicitDefEqProofs only [srR, Nat.reduceEqDiff, ↓reduceIte, ints, rows, intsO, rowsO]
      · simp -implicitDefEqProofs only [agR, Nat.reduceLeDiff, Nat.reduceSub, vaR, go_sem, ints, rows, rat, rats, ratsO, rtR, intsO, rowsO]
      simp -implicitDefEqProofs only [clR, Nat.reduceLeDiff, go_sem, evR, rat]
      generalize nextS cs b2 5 = z at *
      obtain ⟨q, b3⟩ := z
      simp only [] at hs3 hb3 hp ⊢
      rw [wrap64 (n := 1 + q) (by omega) (by omega)]
      simp only [show ((1 : Nat) : Int) = 1 from rfl, nodesO] at hp
      refine CallW.res hp [] rfl Try.call184 ?_ (.inl rfl) ?_
      · simp -implicitDefEqProofs only [agR, Nat.reduceLeDiff, Nat.reduceSub, vaR, go_sem, ints, rows, rat, rats, ratsO, rtR, intsO, rowsO]
      simp -implicitDefEqProofs only [clR, Nat.reduceLeDiff, go_sem, evR, rat, opR, Nat.reduceBEq]
      rfl
    · have hs2 := nextS_seed (cs := cs) hl hs1 3
      have hb2 := nextS_bound (cs := cs) (a := (nextS cs a 5).2) (n := 3) (by omega)
      have hs3 := nextS_seed (cs := cs) hl hs2 4
      have hb3 := nextS_bound (cs := cs) (a := (nextS cs (nextS cs a 5).2 3).2) (n := 4) (by omega)
      obtain ⟨l', h1', h2', hp⟩ := spec_BetTree_w (1 + (nextS cs (nextS cs a 5).2 3).1) (1 + (nextS cs (nextS cs (nextS cs a 5).2 3).2 4).1) 0 (by omega) (by omega) (by omega) (by omega) (by omega)
      refine ⟨(l', (nextS cs (nextS cs (nextS cs a 5).2 3).2 4).2), ⟨h1', h2', hs3⟩, ?_⟩
      refine fun_spec_l20Valid (by simp) ?_
      simp -implicitDefEqProofs only [go_sem, evR, ints, rows, rat, rats, c_spec_l20Valid]
      refine CallW.ref (next_box cs hc hl a ha 5 (by omega)) [1000000000] [] rfl Try.call126 (by simp) ?_ (by simp) ?_ (.inl rfl) ?_
      · simp -implicitDefEqProofs only [srR, Nat.reduceEqDiff, ↓reduceIte, ints, rows, intsO, rowsO]
      · simp -implicitDefEqProofs only [agR, Nat.reduceLeDiff, Nat.reduceSub, vaR, go_sem, ints, rows, rat, rats, ratsO, rtR, intsO, rowsO]
      simp -implicitDefEqProofs only [clR, Nat.reduceLeDiff, go_sem, evR, rat]
      generalize nextS cs a 5 = z at *
      obtain ⟨k, b⟩ := z
      simp only [] at q0 q1 hs1 hs2 hb2 hs3 hb3 hp ⊢
      refine ⟨fun h0 => absurd h0 (by simp [q0]), fun h0 => ⟨fun h1 => absurd h1 (by simp [q1]), fun h1 => ?_⟩⟩
      refine CallW.ref (next_box cs hc hl b hs1 3 (by omega)) [1000000000] [] rfl Try.call126 (by simp) ?_ (by simp) ?_ (.inl rfl) ?_
      · simp -implicitDefEqProofs only [srR, Nat.reduceEqDiff, ↓reduceIte, ints, rows, intsO, rowsO]
      · simp -implicitDefEqProofs only [agR, Nat.reduceLeDiff, Nat.reduceSub, vaR, go_sem, ints, rows, rat, rats, ratsO, rtR, intsO, rowsO]
      simp -implicitDefEqProofs only [clR, Nat.reduceLeDiff, go_sem, evR, rat]
      generalize nextS cs b 3 = z at *
      obtain ⟨p, b2⟩ := z
      simp only [] at hs2 hb2 hs3 hb3 hp ⊢
      refine CallW.ref (next_box cs hc hl b2 hs2 4 (by omega)) [1000000000] [] rfl Try.call126 (by simp) ?_ (by simp) ?_ (.inl rfl) ?_
      · simp -implicitDefEqProofs only [srR, Nat.reduceEqDiff, ↓reduceIte, ints, rows, intsO, rowsO]
      · simp -implicitDefEqProofs only [agR, Nat.reduceLeDiff, Nat.reduceSub, vaR, go_sem, ints, rows, rat, rats, ratsO, rtR, intsO, rowsO]
      simp -implicitDefEqProofs only [clR, Nat.reduceLeDiff, go_sem, evR, rat]
      generalize nextS cs b2 4 = z at *
      obtain ⟨q, b3⟩ := z
      simp only [] at hs3 hb3 hp ⊢
      rw [wrap64 (n := 1 + p) (by omega) (by omega), wrap64 (n := 1 + q) (by omega) (by omega)]
      simp only [show ((0 : Nat) : Int) = 0 from rfl, nodesO] at hp
      refine CallW.res hp [] rfl Try.call184 ?_ (.inl rfl) ?_
      · simp -implicitDefEqProofs only [agR, Nat.reduceLeDiff, Nat.reduceSub, vaR, go_sem, ints, rows, rat, rats, ratsO, rtR, intsO, rowsO]
      simp -implicitDefEqProofs only [clR, Nat.reduceLeDiff, go_sem, evR, rat, opR, Nat.reduceBEq]
      rfl
theorem nodesA_toSh (l : List Nd) : (T.arr 5 (chunk nodeC l)).toSh = nodes l := by
  simp only [nodes, T.toSh, T.toShL_eq_map, chunk, List.map_flatMap]
  rfl
theorem toShL_chunk (l : List Nd) : T.toShL (chunk nodeCO l) = chunk nodeC l := by
  have h := nodesO_toSh l
  rw [nodesO, nodes, T.toSh] at h
  injection h
theorem toShL_chunkC (l : List Nd) : T.toShL (chunk nodeC l) = chunk nodeC l := by
  have h := nodesA_toSh l
  rw [nodes, T.toSh] at h
  injection h
theorem allC_cell (l : List Nd) : (chunk nodeC l).all T.cell = true := by
  rw [List.all_eq_true]
  intro t ht
  simp only [chunk, List.mem_flatMap] at ht
  obtain ⟨x, _, hx⟩ := ht
  simp only [nodeC, List.mem_cons, List.not_mem_nil, or_false] at hx
  rcases hx with rfl | rfl | rfl | rfl | rfl <;> rfl
theorem chunk_p : ∀ (l : List Nd) (i : Nat) (x : Nd) (v : Int), l[i]? = some x → (chunk nodeCO l).set (i * 5) (.i v) = chunk nodeCO (l.set i ⟨v, x.a, x.b, x.f, x.ch⟩)
  | [], i, x, v, h => by simp at h
  | a :: l, 0, x, v, h => by
    simp at h; subst h
    rw [chunk_cons, List.set_cons_zero, chunk_cons]; rfl
  | a :: l, i + 1, x, v, h => by
    rw [chunk_cons, List.set_append_right _ _ (by rw [nodeCO_len]; omega), nodeCO_len, show (i + 1) * 5 - 5 = i * 5 by omega, chunk_p l i x v (by simpa using h), List.set_cons_succ, chunk_cons]
theorem chunk_a : ∀ (l : List Nd) (i : Nat) (x : Nd) (v : Int), l[i]? = some x → (chunk nodeCO l).set (i * 5 + 1) (.i v) = chunk nodeCO (l.set i ⟨x.p, v, x.b, x.f, x.ch⟩)
  | [], i, x, v, h => by simp at h
  | a :: l, 0, x, v, h => by
    simp at h; subst h
    rw [chunk_cons, List.set_cons_zero, chunk_cons]; rfl
  | a :: l, i + 1, x, v, h => by
    rw [chunk_cons, List.set_append_right _ _ (by rw [nodeCO_len]; omega), nodeCO_len, show (i + 1) * 5 + 1 - 5 = i * 5 + 1 by omega, chunk_a l i x v (by simpa using h), List.set_cons_succ, chunk_cons]
theorem chunk_f : ∀ (l : List Nd) (i : Nat) (x : Nd) (v : Int), l[i]? = some x → (chunk nodeCO l).set (i * 5 + 3) (.i v) = chunk nodeCO (l.set i ⟨x.p, x.a, x.b, v, x.ch⟩)
  | [], i, x, v, h => by simp at h
  | a :: l, 0, x, v, h => by
    simp at h; subst h
    rw [chunk_cons, List.set_cons_zero, chunk_cons]; rfl
  | a :: l, i + 1, x, v, h => by
    rw [chunk_cons, List.set_append_right _ _ (by rw [nodeCO_len]; omega), nodeCO_len, show (i + 1) * 5 + 3 - 5 = i * 5 + 3 by omega, chunk_f l i x v (by simpa using h), List.set_cons_succ, chunk_cons]
theorem smallN_upd {b : Nat} {l : List Nd} (h : smallN b l) {i : Nat} {x : Nd} (hx : l[i]? = some x) (p a c f : Int) : smallN b (l.set i ⟨p, a, c, f, x.ch⟩) := smallN_set h i _ (h.2 x (List.mem_of_getElem? hx))
def drawnT (b : Bool) (l : List Nd) : T := .agg [if b then nodes l else .arr 5 (chunk nodeC l)]
def tdF (cs : List Int) (l : List Nd) (k : Nat) (q : Int) (c : Nat × Int) : (List Nd × Bool) × (Nat × Int) :=
  match l[k]? with
  | none => ((l, true), c)
  | some z =>
    if q = 0 then ((l.set k ⟨(pickS cs c [-1, 0, 1, 2, 3]).1, z.a, z.b, z.f, z.ch⟩, true), (pickS cs c [-1, 0, 1, 2, 3]).2)
    else if q = 1 then ((l.set k ⟨z.p, (pickS cs c [-1, 0, 100, 101]).1, z.b, z.f, z.ch⟩, true), (pickS cs c [-1, 0, 100, 101]).2)
    else if q = 2 then ((l.set k ⟨z.p, z.a, z.b, (pickS cs c [-2, -1, 0, 2]).1, z.ch⟩, true), (pickS cs c [-2, -1, 0, 2]).2)
    else if q = 3 then ((setCh l 0 [1, 1], true), c)
    else if q = 4 then ((l.take k, true), c)
    else if q = 5 then ((l ++ l[l.length - 1]?.toList, false), c)
    else ((l, true), c)
theorem tdF_ok {cs : List Int} (hl : cs.length ≤ 100000000000) {l : List Nd} (h : smallN 100 l) (k : Nat) (q : Int) {c : Nat × Int} (hc : seedOK c) : smallN 101 (tdF cs l k q c).1.1 ∧ seedOK (tdF cs l k q c).2 := by
  have hs : smallN 101 l := ⟨by have := h.1; omega, h.2⟩
  unfold tdF
  cases hz : l[k]? with
  | none => exact ⟨hs, hc⟩
  | some z =>
    (try simp only [])
    split
    · exact ⟨smallN_upd hs hz _ _ _ _, pickS_seed hl hc _⟩
    split
    · exact ⟨smallN_upd hs hz _ _ _ _, pickS_seed hl hc _⟩
    split
    · exact ⟨smallN_upd hs hz _ _ _ _, pickS_seed hl hc _⟩
    split
    · exact ⟨(setCh_small hs 0 (by simp)).1, hc⟩
    split
    · exact ⟨⟨by show (l.take k).length ≤ 101; rw [List.length_take]; have := hs.1; omega, fun x hx => hs.2 x (List.mem_of_mem_take hx)⟩, hc⟩
    split
    · refine ⟨⟨?_, fun x hx => ?_⟩, hc⟩
      · have := h.1
        show (l ++ l[l.length - 1]?.toList).length ≤ 101
        rw [List.length_append]
        have : l[l.length - 1]?.toList.length ≤ 1 := by cases l[l.length - 1]? <;> simp
        omega
      · rcases List.mem_append.1 hx with hx | hx
        · exact hs.2 x hx
        · cases hg : l[l.length - 1]? with
          | none => rw [hg] at hx; simp at hx
          | some y => rw [hg] at hx; simp at hx; rw [hx]; exact hs.2 _ (List.mem_of_getElem? hg)
    · exact ⟨hs, hc⟩
set_option maxRecDepth 20000 in
theorem spec_l20Draw_ok (cs : List Int) (hc : bytesOK cs) (hl : cs.length ≤ 100000000000) (a : Nat × Int) (ha : seedOK a) : ∃ x : (List Nd × Bool) × (Nat × Int), (smallN 101 x.1.1 ∧ seedOK x.2) ∧ Fun Try.prog 223 [.box [bytes cs, .i a.1, .i a.2]] [.own 1000000000] fun o r => o = [.box [bytes cs, .i x.2.1, .i x.2.2]] ∧ r = drawnT x.1.2 x.1.1 := by
  obtain ⟨⟨l, e⟩, ⟨hx1, hx2, hx3⟩, hV⟩ := spec_l20Valid_ok cs hc hl a ha
  (try simp only [] at hx1 hx2 hx3 hV)
  refine ⟨tdF cs l (nextS cs e l.length).1.toNat (nextS cs (nextS cs e l.length).2 30).1 (nextS cs (nextS cs e l.length).2 30).2, tdF_ok hl hx1 _ _ (nextS_seed hl (nextS_seed hl hx3 _) _), ?_⟩
  refine fun_spec_l20Draw_h (by simp) ?_
  simp -implicitDefEqProofs only [go_sem, evR, ints, rows, rat, rats, c_spec_l20Draw_h]
  simp only [nodesO] at hV
  refine CallW.ref hV [1000000000] [] rfl Try.call227 (by simp) ?_ (by simp) ?_ (.inl rfl) ?_
  · simp -implicitDefEqProofs only [srR, Nat.reduceEqDiff, ↓reduceIte, ints, rows, intsO, rowsO]
  · simp -implicitDefEqProofs only [agR, Nat.reduceLeDiff, Nat.reduceSub, vaR, go_sem, ints, rows, rat, rats, ratsO, rtR, intsO, rowsO]
  simp -implicitDefEqProofs only [clR, Nat.reduceLeDiff, go_sem, evR, rat]
  have hl1 := hx1.1
  have hnl : (chunk nodeCO l).length / 5 = l.length := chunk_div nodeCO_len (by decide) l
  have hnl5 : (chunk nodeCO l).length = l.length * 5 := chunk_length nodeCO_len l
  rw [hnl]
  refine CallW.ref (next_box cs hc hl e hx3 l.length (by omega)) [1000000000] [] rfl Try.call126 (by simp) ?_ (by simp) ?_ (.inl rfl) ?_
  · simp -implicitDefEqProofs only [srR, Nat.reduceEqDiff, ↓reduceIte, ints, rows, intsO, rowsO]
  · simp -implicitDefEqProofs only [agR, Nat.reduceLeDiff, Nat.reduceSub, vaR, go_sem, ints, rows, rat, rats, ratsO, rtR, intsO, rowsO]
  simp -implicitDefEqProofs only [clR, Nat.reduceLeDiff, go_sem, evR, rat]
  have hs1 := nextS_seed (cs := cs) hl hx3 l.length
  have hb1 := nextS_bound (cs := cs) (a := e) (n := l.length) (by omega)
  generalize nextS cs e l.length = z at hs1 hb1 ⊢
  obtain ⟨k, b⟩ := z
  simp only [] at hs1 hb1 ⊢
  obtain ⟨k, rfl⟩ : ∃ n : Nat, k = n := ⟨k.toNat, by omega⟩
  rw [Int.toNat_natCast]
  refine CallW.ref (next_box cs hc hl b hs1 30 (by omega)) [1000000000] [] rfl Try.call126 (by simp) ?_ (by simp) ?_ (.inl rfl) ?_
  · simp -implicitDefEqProofs only [srR, Nat.reduceEqDiff, ↓reduceIte, ints, rows, intsO, rowsO]
  · simp -implicitDefEqProofs only [agR, Nat.reduceLeDiff, Nat.reduceSub, vaR, go_sem, ints, rows, rat, rats, ratsO, rtR, intsO, rowsO]
  simp -implicitDefEqProofs only [clR, Nat.reduceLeDiff, go_sem, evR, rat, List.lookup_cons, beq_self_eq_true]
  have hs2 := nextS_seed (cs := cs) hl hs1 30
  generalize nextS cs b 30 = z at hs2 ⊢
  obtain ⟨q, c⟩ := z
  simp only [] at hs2 ⊢
  obtain ⟨z0, hz0⟩ : ∃ z, l[k]? = some z := ⟨_, List.getElem?_eq_getElem (by omega)⟩
  have hsm : smallN 101 l := ⟨by omega, hx1.2⟩
  refine ⟨fun q0 => ?_, fun q0 => ⟨fun q1 => ?_, fun q1 => ⟨fun q2 => ?_, fun q2 => ⟨fun q3 => ?_, fun q3 => ⟨fun q4 => ?_, fun q4 => ⟨fun q5 => ?_, fun q5 => ?_⟩⟩⟩⟩⟩⟩
  · have hp := pick_own cs hc hl c hs2 [-1, 0, 1, 2, 3] (by simp) (by simp)
    simp only [intsO, List.map_cons, List.map_nil] at hp
    refine CallH.ref hp [1000000000, 20] [] rfl Try.call147 (by simp) ?_ (by simp) (fun e R' hR => ?_) (.inl rfl) ?_
    · simp -implicitDefEqProofs only [srR, Nat.reduceEqDiff, ↓reduceIte, ints, rows, intsO, rowsO]
    · simp -implicitDefEqProofs only [agR, Nat.reduceLeDiff, Nat.reduceSub, vaR, go_sem, ints, rows, rat, rats, ratsO, rtR, intsO, rowsO]
    simp -implicitDefEqProofs only [clR, Nat.reduceLeDiff, go_sem, evR, rat]
    have hs3 := pickS_seed (cs := cs) hl hs2 [-1, 0, 1, 2, 3]
    generalize hpk : pickS cs c [-1, 0, 1, 2, 3] = z at hs3 ⊢
    obtain ⟨v, d⟩ := z
    simp only [] at hs3 ⊢
    refine ⟨?_, ((frameOK.refl _ _ _).upd _ (.inl (by simp))).upd _ (.inl (by simp))⟩
    simp -implicitDefEqProofs only [go_sem, evR, ints, rows, rat, rats, hnl5]
    refine ⟨by omega, by omega, by omega, ?_⟩
    rw [chunk_p l k z0 v hz0]
    refine ⟨_, Weak.trans (Weak.close1 3 0 9 rfl rfl (by decide) rfl) (Weak.trans (Weak.share 3 rfl) (Weak.of [(0, .own 1000000000), (2, .own 2), (3, .t (.pin [nodes (l.set k ⟨v, z0.a, z0.b, z0.f, z0.ch⟩)] 0)), (4, .t (.i k))] [(1000000000, .box [bytes cs, .i d.1, .i d.2]), (2, .box [.v (.slice none 0 0)])] [some 1000000000, some 2] (by simp) (by simp) ?_ ?_)), ?_⟩
    · simp -implicitDefEqProofs only [ints, rows, Nat.reduceBEq, wkR, Nat.reduceEqDiff, ↓reduceIte, wrR, shareA, T.toSh, T.toShL, toShL_chunk, nodes, List.set_cons_zero]
    · exact ⟨⟨_, rfl, .refl _⟩, rfl, ⟨_, rfl, .refl _⟩, rfl, trivial⟩
    simp -implicitDefEqProofs only [go_sem, evR, ints, rows, rat, rats, nodes]
    have hT : tdF cs l k q c = (((l.set k ⟨v, z0.a, z0.b, z0.f, z0.ch⟩), true), d) := by simp only [tdF, hz0, hpk]; exact if_pos (by simpa using q0)
    rw [hT]; exact ⟨rfl, rfl⟩
  · have hp := pick_own cs hc hl c hs2 [-1, 0, 100, 101] (by simp) (by simp)
    simp only [intsO, List.map_cons, List.map_nil] at hp
    refine CallH.ref hp [1000000000, 30] [] rfl Try.call147 (by simp) ?_ (by simp) (fun e R' hR => ?_) (.inl rfl) ?_
    · simp -implicitDefEqProofs only [srR, Nat.reduceEqDiff, ↓reduceIte, ints, rows, intsO, rowsO]
    · simp -implicitDefEqProofs only [agR, Nat.reduceLeDiff, Nat.reduceSub, vaR, go_sem, ints, rows, rat, rats, ratsO, rtR, intsO, rowsO]
    simp -implicitDefEqProofs only [clR, Nat.reduceLeDiff, go_sem, evR, rat]
    have hs3 := pickS_seed (cs := cs) hl hs2 [-1, 0, 100, 101]
    generalize hpk : pickS cs c [-1, 0, 100, 101] = z at hs3 ⊢
    obtain ⟨v, d⟩ := z
    simp only [] at hs3 ⊢
    refine ⟨?_, ((frameOK.refl _ _ _).upd _ (.inl (by simp))).upd _ (.inl (by simp))⟩
    simp -implicitDefEqProofs only [go_sem, evR, ints, rows, rat, rats, hnl5]
    refine ⟨by omega, by omega, by omega, ?_⟩
    rw [chunk_a l k z0 v hz0]
    refine ⟨_, Weak.trans (Weak.close1 3 0 9 rfl rfl (by decide) rfl) (Weak.trans (Weak.share 3 rfl) (Weak.of [(0, .own 1000000000), (2, .own 2), (3, .t (.pin [nodes (l.set k ⟨z0.p, v, z0.b, z0.f, z0.ch⟩)] 0)), (4, .t (.i k))] [(1000000000, .box [bytes cs, .i d.1, .i d.2]), (2, .box [.v (.slice none 0 0)])] [some 1000000000, some 2] (by simp) (by simp) ?_ ?_)), ?_⟩
    · simp -implicitDefEqProofs only [ints, rows, Nat.reduceBEq, wkR, Nat.reduceEqDiff, ↓reduceIte, wrR, shareA, T.toSh, T.toShL, toShL_chunk, nodes, List.set_cons_zero]
    · exact ⟨⟨_, rfl, .refl _⟩, rfl, ⟨_, rfl, .refl _⟩, rfl, trivial⟩
    simp -implicitDefEqProofs only [go_sem, evR, ints, rows, rat, rats, nodes]
    have hT : tdF cs l k q c = (((l.set k ⟨z0.p, v, z0.b, z0.f, z0.ch⟩), true), d) := by simp only [tdF, hz0, hpk]; rw [if_neg (by simpa using q0)]; exact if_pos (by simpa using q1)
    rw [hT]; exact ⟨rfl, rfl⟩
  · have hp := pick_own cs hc hl c hs2 [-2, -1, 0, 2] (by simp) (by simp)
    simp only [intsO, List.map_cons, List.map_nil] at hp
    refine CallH.ref hp [1000000000, 40] [] rfl Try.call147 (by simp) ?_ (by simp) (fun e R' hR => ?_) (.inl rfl) ?_
    · simp -implicitDefEqProofs only [srR, Nat.reduceEqDiff, ↓reduceIte, ints, rows, intsO, rowsO]
    · simp -implicitDefEqProofs only [agR, Nat.reduceLeDiff, Nat.reduceSub, vaR, go_sem, ints, rows, rat, rats, ratsO, rtR, intsO, rowsO]
    simp -implicitDefEqProofs only [clR, Nat.reduceLeDiff, go_sem, evR, rat]
    have hs3 := pickS_seed (cs := cs) hl hs2 [-2, -1, 0, 2]
    generalize hpk : pickS cs c [-2, -1, 0, 2] = z at hs3 ⊢
    obtain ⟨v, d⟩ := z
    simp only [] at hs3 ⊢
    refine ⟨?_, ((frameOK.refl _ _ _).upd _ (.inl (by simp))).upd _ (.inl (by simp))⟩
    simp -implicitDefEqProofs only [go_sem, evR, ints, rows, rat, rats, hnl5]
    refine ⟨by omega, by omega, by omega, ?_⟩
    rw [chunk_f l k z0 v hz0]
    refine ⟨_, Weak.trans (Weak.close1 3 0 9 rfl rfl (by decide) rfl) (Weak.trans (Weak.share 3 rfl) (Weak.of [(0, .own 1000000000), (2, .own 2), (3, .t (.pin [nodes (l.set k ⟨z0.p, z0.a, z0.b, v, z0.ch⟩)] 0)), (4, .t (.i k))] [(1000000000, .box [bytes cs, .i d.1, .i d.2]), (2, .box [.v (.slice none 0 0)])] [some 1000000000, some 2] (by simp) (by simp) ?_ ?_)), ?_⟩
    · simp -implicitDefEqProofs only [ints, rows, Nat.reduceBEq, wkR, Nat.reduceEqDiff, ↓reduceIte, wrR, shareA, T.toSh, T.toShL, toShL_chunk, nodes, List.set_cons_zero]
    · exact ⟨⟨_, rfl, .refl _⟩, rfl, ⟨_, rfl, .refl _⟩, rfl, trivial⟩
    simp -implicitDefEqProofs only [go_sem, evR, ints, rows, rat, rats, nodes]
    have hT : tdF cs l k q c = (((l.set k ⟨z0.p, z0.a, z0.b, v, z0.ch⟩), true), d) := by simp only [tdF, hz0, hpk]; rw [if_neg (by simpa using q0), if_neg (by simpa using q1)]; exact if_pos (by simpa using q2)
    rw [hT]; exact ⟨rfl, rfl⟩
  · obtain ⟨z1, hz1⟩ : ∃ z, l[0]? = some z := ⟨_, List.getElem?_eq_getElem (by omega)⟩
    have hch := chunk_ch l 0 z1 [1, 1] hz1
    simp only [Nat.zero_mul, Nat.zero_add, intsO, List.map_cons, List.map_nil] at hch
    refine ⟨by omega, by omega, ?_⟩
    simp -implicitDefEqProofs only [go_sem, evR, ints, rows, rat, rats, hch]
    refine ⟨_, Weak.trans (Weak.close1 3 0 9 rfl rfl (by decide) rfl) (Weak.trans (Weak.share 3 rfl) (Weak.of [(0, .own 1000000000), (2, .own 2), (3, .t (.pin [nodes (l.set 0 ⟨z1.p, z1.a, z1.b, z1.f, [1, 1]⟩)] 0)), (4, .t (.i k))] [(1000000000, .box [bytes cs, .i c.1, .i c.2]), (2, .box [.v (.slice none 0 0)])] [some 1000000000, some 2] (by simp) (by simp) ?_ ?_)), ?_⟩
    · simp -implicitDefEqProofs only [ints, rows, Nat.reduceBEq, wkR, Nat.reduceEqDiff, ↓reduceIte, wrR, shareA, T.toSh, T.toShL, toShL_chunk, nodes, List.set_cons_zero]
    · exact ⟨⟨_, rfl, .refl _⟩, rfl, ⟨_, rfl, .refl _⟩, rfl, trivial⟩
    simp -implicitDefEqProofs only [go_sem, evR, ints, rows, rat, rats, nodes]
    have hT : tdF cs l k q c = ((l.set 0 ⟨z1.p, z1.a, z1.b, z1.f, [1, 1]⟩, true), c) := by simp only [tdF, hz0]; rw [if_neg (by simpa using q0), if_neg (by simpa using q1), if_neg (by simpa using q2), if_pos (by simpa using q3)]; simp only [setCh, hz1]
    rw [hT]; exact ⟨rfl, rfl⟩
  · refine ⟨_, Weak.trans (Weak.close1 3 0 9 rfl rfl (by decide) rfl) (Weak.trans (Weak.share 3 rfl) (Weak.of [(0, .own 1000000000), (2, .own 2), (3, .t (.pin [nodes l] 0)), (4, .t (.i k))] [(1000000000, .box [bytes cs, .i c.1, .i c.2]), (2, .box [.v (.slice none 0 0)])] [some 1000000000, some 2] (by simp) (by simp) ?_ ?_)), ?_⟩
    · simp -implicitDefEqProofs only [ints, rows, Nat.reduceBEq, wkR, Nat.reduceEqDiff, ↓reduceIte, wrR, shareA, T.toSh, T.toShL, toShL_chunk, nodes, List.set_cons_zero]
    · exact ⟨⟨_, rfl, .refl _⟩, rfl, ⟨_, rfl, .refl _⟩, rfl, trivial⟩
    simp -implicitDefEqProofs only [go_sem, evR, ints, rows, rat, rats, nodes]
    have hT : tdF cs l k q c = ((l.take k, true), c) := by simp only [tdF, hz0]; rw [if_neg (by simpa using q0), if_neg (by simpa using q1), if_neg (by simpa using q2), if_neg (by simpa using q3)]; exact if_pos (by simpa using q4)
    rw [hT]
    refine ⟨by omega, by rw [nd_len]; omega, rfl, ?_⟩
    rw [drawnT, Nat.sub_zero, chunk_take nodeC_len]; rfl
  · refine ⟨_, Weak.trans (Weak.close1 3 0 9 rfl rfl (by decide) rfl) (Weak.trans (Weak.share 3 rfl) (Weak.of [(0, .own 1000000000), (2, .own 2), (3, .t (.pin [nodes l] 0)), (4, .t (.i k))] [(1000000000, .box [bytes cs, .i c.1, .i c.2]), (2, .box [.v (.slice none 0 0)])] [some 1000000000, some 2] (by simp) (by simp) ?_ ?_)), ?_⟩
    · simp -implicitDefEqProofs only [ints, rows, Nat.reduceBEq, wkR, Nat.reduceEqDiff, ↓reduceIte, wrR, shareA, T.toSh, T.toShL, toShL_chunk, nodes, List.set_cons_zero]
    · exact ⟨⟨_, rfl, .refl _⟩, rfl, ⟨_, rfl, .refl _⟩, rfl, trivial⟩
    obtain ⟨z1, hz1⟩ : ∃ z, l[l.length - 1]? = some z := ⟨_, List.getElem?_eq_getElem (by omega)⟩
    have hw : IntKind.i64.wrap ((l.length : Int) - 1) = ((l.length - 1 : Nat) : Int) := by rw [wrap64 (by omega) (by omega)]; omega
    simp -implicitDefEqProofs only [go_sem, evR, ints, rows, rat, rats, nodes, nd_len, hw, nd_at hz1, allC_cell, show l.length * 5 / 5 = l.length by omega]
    refine ⟨⟨by omega, ⟨by omega, by omega, by omega, rfl, ?_, (frameOK.refl _ _ _).upd _ (.inr rfl)⟩, ((frameOK.refl _ _ _).upd _ (.inl (by simp))).upd _ (.inr rfl)⟩, (frameOK.refl _ _ _).upd _ (.inr rfl)⟩
    generalize hR : mergeR [60, 63] _ _ = R
    have h63 : R 63 = .live (.arr 5 (chunk nodeC l)) [] := by rw [← hR]; rfl
    have h73 : R 73 = .free := by rw [← hR]; rfl
    rw [h63, h73]
    have hT : tdF cs l k q c = ((l ++ [z1], false), c) := by simp only [tdF, hz0]; rw [if_neg (by simpa using q0), if_neg (by simpa using q1), if_neg (by simpa using q2), if_neg (by simpa using q3), if_neg (by simpa using q4), if_pos (by simpa using q5), hz1]; rfl
    rw [hT]
    refine ⟨rfl, by rw [nd_len]; omega, rfl, rfl, ?_⟩
    simp only [drawnT, chunk_append]; rfl
  · refine ⟨_, Weak.trans (Weak.close1 3 0 9 rfl rfl (by decide) rfl) (Weak.trans (Weak.share 3 rfl) (Weak.of [(0, .own 1000000000), (2, .own 2), (3, .t (.pin [nodes l] 0)), (4, .t (.i k))] [(1000000000, .box [bytes cs, .i c.1, .i c.2]), (2, .box [.v (.slice none 0 0)])] [some 1000000000, some 2] (by simp) (by simp) ?_ ?_)), ?_⟩
    · simp -implicitDefEqProofs only [ints, rows, Nat.reduceBEq, wkR, Nat.reduceEqDiff, ↓reduceIte, wrR, shareA, T.toSh, T.toShL, toShL_chunk, nodes, List.set_cons_zero]
    · exact ⟨⟨_, rfl, .refl _⟩, rfl, ⟨_, rfl, .refl _⟩, rfl, trivial⟩
    simp -implicitDefEqProofs only [go_sem, evR, ints, rows, rat, rats, nodes]
    have hT : tdF cs l k q c = ((l, true), c) := by simp only [tdF, hz0]; rw [if_neg (by simpa using q0), if_neg (by simpa using q1), if_neg (by simpa using q2), if_neg (by simpa using q3), if_neg (by simpa using q4), if_neg (by simpa using q5)]
    rw [hT]; exact ⟨rfl, rfl⟩
end
end Go.Ab

/- Contracts: the shape of drawn games. -/
set_option linter.unusedSimpArgs false
set_option linter.unusedVariables false
namespace Go.Ab
open Go.Proofs
section
attribute [-go_sem] load1C load1V fldC lenC idxC loadNV nilCheckW
set_option maxRecDepth 20000 in
theorem spec_l21Tree_ok (l : List Nd) (hl : smallN 1000 l) : Fun Try.prog 219 [] [.t (treeT l)] fun o r => o = [] ∧ r = .agg [nodesO l] := by
  refine fun_spec_l21Tree (by simp) ?_
  simp -implicitDefEqProofs only [go_sem, evR, ints, rows, rat, rats, c_spec_l21Tree, treeT, nodes]
  refine SemC.loopR (σ := Nat) (fun i => St.of [(1, .own 1), (2, .own 2), (3, .own 96), (4, .t (.i i))] [(1, .box [nodes l]), (2, .box [.v (.slice none 0 0)]), (96, nodesO (l.take i))]) (fun i => i ≤ l.length) (fun i => l.length - i) 0 (Weak.of _ _ [some 1, some 2, some 6] (by simp) (by simp) ?_ ?_) (by simp) fun i hi R hn hr he => ?_
  · simp -implicitDefEqProofs only [ints, rows, Nat.reduceBEq, wkR, Nat.reduceEqDiff, ↓reduceIte, wrR, nodes]
  · exact ⟨⟨_, rfl, .refl _⟩, rfl, ⟨_, rfl, .refl _⟩, rfl, ⟨_, rfl, .refl _⟩, rfl, trivial⟩
  have hl1 := hl.1
  rcases Nat.lt_or_ge i l.length with h9 | h9
  · obtain ⟨x, hx⟩ : ∃ x, l[i]? = some x := ⟨_, List.getElem?_eq_getElem h9⟩
    have hxl := hl.2 x (List.mem_of_getElem? hx)
    have hnt : (chunk nodeCO (l.take i)).length = i * 5 := by rw [chunk_length nodeCO_len, List.length_take, Nat.min_eq_left (by omega)]
    simp -implicitDefEqProofs only [go_sem, evR, ints, rows, rat, rats, nodes, nodesO, decide_eq_true (show (i : Int) < (l.length : Int) by omega), nd_at hx]
    refine ⟨by omega, by rw [nd_len]; omega, by rw [nd_len]; omega, ?_⟩
    have hp := spec_l01Own_ok x.ch (by omega)
    simp only [ints, intsO] at hp
    refine CallW.res hp [] rfl Try.call167 ?_ (.inl rfl) ?_
    · simp -implicitDefEqProofs only [agR, Nat.reduceLeDiff, Nat.reduceSub, vaR, go_sem, ints, rows, rat, rats, ratsO, rtR, intsO, rowsO]
    simp -implicitDefEqProofs only [clR, Nat.reduceLeDiff, go_sem, evR, rat, opR, Nat.reduceBEq, hnt]
    refine ⟨by omega, hn _ (i + 1) (Weak.of _ _ [some 1, some 2, some 26] (by simp) (by simp) ?_ ?_) (by omega) (by omega)⟩
    · simp -implicitDefEqProofs only [ints, rows, Nat.reduceBEq, wkR, Nat.reduceEqDiff, ↓reduceIte, wrR, nodes, next64 h9 (by omega)]
    · refine ⟨⟨_, rfl, .refl _⟩, rfl, ⟨_, rfl, .refl _⟩, rfl, ⟨_, rfl, ?_⟩, rfl, trivial⟩
      rw [nodesO, take_snoc hx, chunk_append]; exact .refl _
  · simp -implicitDefEqProofs only [go_sem, evR, ints, rows, rat, rats, nodes, decide_eq_false (show ¬ (i : Int) < (l.length : Int) by omega)]
    refine he _ _ ?_
    simp -implicitDefEqProofs only [go_sem, evR, ints, rows, rat, rats, nodesO]
    rw [List.take_of_length_le (by omega)]
theorem spec_l04Order_ok (x y : Int) : Fun Try.prog 218 [] [.t (.i x), .t (.i y)] fun o r => ∃ z : Int, o = [] ∧ r = .i z ∧ (-1 ≤ z ∧ z ≤ 1) := by
  refine fun_spec_l04Order (by simp) ?_
  simp -implicitDefEqProofs only [go_sem, evR, ints, rows, rat, rats, c_spec_l04Order]
  refine ⟨fun h => ?_, fun h => ⟨fun h1 => ?_, fun h1 => ?_⟩⟩
  · exact ⟨_, rfl, by omega, by omega⟩
  · exact ⟨_, rfl, by omega, by omega⟩
  · exact ⟨_, rfl, by omega, by omega⟩
def smallG (g : Gm) : Prop := smallN 101 g.nd ∧ g.w.length ≤ 4 ∧ (∀ r ∈ g.w, r.length ≤ 4) ∧ g.v.length ≤ 4 ∧ ∀ r ∈ g.v, r.length ≤ 4
theorem rows_snoc4 {m : List (List Int)} {r : List Int} {k : Nat} (h : ∀ x ∈ m, x.length = k) (hr : r.length = k) : ∀ x ∈ m ++ [r], x.length = k := by
  intro x hx
  rcases List.mem_append.1 hx with hx | hx
  · exact h x hx
  · simp at hx; rw [hx]; exact hr
set_option maxRecDepth 20000 in
theorem spec_l21HighCard_w (l : List Nd) (hl : smallN 101 l) (k : Nat) (hk : k ≤ 4) (ag : Bool) : Fun Try.prog 185 [] [.t (treeT l), .t (.i k), .t (.b ag)] fun o r => ∃ g : Gm, o = [] ∧ r = gameO g ∧ (g.nd = l ∧ g.w.length = k ∧ (∀ r ∈ g.w, r.length = k) ∧ g.v.length = k ∧ ∀ r ∈ g.v, r.length = k) := by
  refine fun_spec_l21HighCard (by simp) ?_
  simp -implicitDefEqProofs only [go_sem, evR, ints, rows, rat, rats, c_spec_l21HighCard, treeT, nodes]
  refine SemC.loopR (σ := List (List Int) × List (List Int)) (fun s => St.of [(1, .t (.i k)), (2, .t (.b ag)), (3, .own 3), (6, .own 6), (7, .own 96), (8, .own 97), (9, .t (.i s.1.length))] [(3, .box [nodes l]), (6, .box [.v (.slice none 0 0), .v (.slice none 0 0), .v (.slice none 0 0)]), (96, rowsO s.1), (97, rowsO s.2)]) (fun s => s.1.length ≤ k ∧ s.2.length = s.1.length ∧ (∀ r ∈ s.1, r.length = k) ∧ ∀ r ∈ s.2, r.length = k) (fun s => k - s.1.length) ([], []) (Weak.of _ _ [some 3, some 6, some 13, some 14] (by simp) (by simp) ?_ ?_) (by simp) fun s hI R hn hr he => ?_
  · simp -implicitDefEqProofs only [ints, rows, Nat.reduceBEq, wkR, Nat.reduceEqDiff, ↓reduceIte, wrR, nodes, List.length_nil]
  · exact ⟨⟨_, rfl, .refl _⟩, rfl, ⟨_, rfl, .refl _⟩, rfl, ⟨_, rfl, .refl _⟩, rfl, ⟨_, rfl, .refl _⟩, rfl, trivial⟩
  obtain ⟨w, v⟩ := s
  obtain ⟨i1, i2, i3, i4⟩ := hI
  (try simp only [] at i1 i2 i3 i4)
  rcases Nat.lt_or_ge w.length k with h9 | h9
  · simp -implicitDefEqProofs only [go_sem, evR, ints, rows, rat, rats, nodes, rowsO, decide_eq_true (show (w.length : Int) < (k : Int) by omega)]
    refine SemC.loopR (σ := List Int × List Int) (fun s => St.of [(1, .t (.i k)), (2, .t (.b ag)), (3, .own 3), (6, .own 6), (7, .own 96), (8, .own 97), (9, .t (.i w.length)), (10, .own 98), (11, .own 99), (12, .t (.i s.1.length))] [(3, .box [nodes l]), (6, .box [.v (.slice none 0 0), .v (.slice none 0 0), .v (.slice none 0 0)]), (96, rowsO w), (97, rowsO v), (98, intsO s.1), (99, intsO s.2)]) (fun s => s.1.length ≤ k ∧ s.2.length = s.1.length) (fun s => k - s.1.length) ([], []) (Weak.of _ _ [some 3, some 6, some 96, some 97, some 20, some 21] (by simp) (by simp) ?_ ?_) (by simp) fun s hI R2 hn2 hr2 he2 => ?_
    · simp -implicitDefEqProofs only [ints, rows, Nat.reduceBEq, wkR, Nat.reduceEqDiff, ↓reduceIte, wrR, nodes, List.length_nil]
    · exact ⟨⟨_, rfl, .refl _⟩, rfl, ⟨_, rfl, .refl _⟩, rfl, ⟨_, rfl, .refl _⟩, rfl, ⟨_, rfl, .refl _⟩, rfl, ⟨_, rfl, .refl _⟩, rfl, ⟨_, rfl, .refl _⟩, rfl, trivial⟩
    obtain ⟨p, q⟩ := s
    obtain ⟨j1, j2⟩ := hI
    (try simp only [] at j1 j2)
    rcases Nat.lt_or_ge p.length k with h8 | h8
    · simp -implicitDefEqProofs only [go_sem, evR, ints, rows, rat, rats, nodes, rowsO, intsO, decide_eq_true (show (p.length : Int) < (k : Int) by omega)]
      refine ⟨fun _ => ⟨fun _ => ⟨by omega, ?_⟩, fun _ => ⟨by omega, ?_⟩⟩, fun _ => ⟨by omega, ?_⟩⟩
      · refine CallW.exi (spec_l04Order_ok (w.length : Int) (p.length : Int)) [] [] rfl Try.call218 (by simp) ?_ (by simp) ?_ (.inl rfl) (fun z hz => ?_)
        · simp -implicitDefEqProofs only [srR, Nat.reduceEqDiff, ↓reduceIte, ints, rows, intsO, rowsO]
        · simp -implicitDefEqProofs only [agR, Nat.reduceLeDiff, Nat.reduceSub, vaR, go_sem, ints, rows, rat, rats, ratsO, rtR, intsO, rowsO]
        simp -implicitDefEqProofs only [clR, Nat.reduceLeDiff, go_sem, evR, rat, intsO]
        refine ⟨by omega, hn2 _ (p ++ [0], q ++ [z]) (Weak.of _ _ [some 3, some 6, some 96, some 97, some 36, some 45] (by simp) (by simp) ?_ ?_) ⟨by simp; omega, by simp; omega⟩ (by simp; omega)⟩
        · simp -implicitDefEqProofs only [ints, rows, Nat.reduceBEq, wkR, Nat.reduceEqDiff, ↓reduceIte, wrR, nodes, next64 h8 (by omega), List.length_append, List.length_cons, List.length_nil]
        · refine ⟨⟨_, rfl, .refl _⟩, rfl, ⟨_, rfl, .refl _⟩, rfl, ⟨_, rfl, .refl _⟩, rfl, ⟨_, rfl, .refl _⟩, rfl, ⟨_, rfl, ?_⟩, rfl, ⟨_, rfl, ?_⟩, rfl, trivial⟩
          · simp only [intsO, List.map_append, List.map_cons, List.map_nil]; exact .refl _
          · simp only [intsO, List.map_append, List.map_cons, List.map_nil]; exact .refl _
      · refine CallW.exi (spec_l04Order_ok (w.length : Int) (p.length : Int)) [] [] rfl Try.call218 (by simp) ?_ (by simp) ?_ (.inl rfl) (fun z hz => ?_)
        · simp -implicitDefEqProofs only [srR, Nat.reduceEqDiff, ↓reduceIte, ints, rows, intsO, rowsO]
        · simp -implicitDefEqProofs only [agR, Nat.reduceLeDiff, Nat.reduceSub, vaR, go_sem, ints, rows, rat, rats, ratsO, rtR, intsO, rowsO]
        simp -implicitDefEqProofs only [clR, Nat.reduceLeDiff, go_sem, evR, rat, intsO]
        refine ⟨by omega, hn2 _ (p ++ [1], q ++ [z]) (Weak.of _ _ [some 3, some 6, some 96, some 97, some 39, some 45] (by simp) (by simp) ?_ ?_) ⟨by simp; omega, by simp; omega⟩ (by simp; omega)⟩
        · simp -implicitDefEqProofs only [ints, rows, Nat.reduceBEq, wkR, Nat.reduceEqDiff, ↓reduceIte, wrR, nodes, next64 h8 (by omega), List.length_append, List.length_cons, List.length_nil]
        · refine ⟨⟨_, rfl, .refl _⟩, rfl, ⟨_, rfl, .refl _⟩, rfl, ⟨_, rfl, .refl _⟩, rfl, ⟨_, rfl, .refl _⟩, rfl, ⟨_, rfl, ?_⟩, rfl, ⟨_, rfl, ?_⟩, rfl, trivial⟩
          · simp only [intsO, List.map_append, List.map_cons, List.map_nil]; exact .refl _
          · simp only [intsO, List.map_append, List.map_cons, List.map_nil]; exact .refl _
      · refine CallW.exi (spec_l04Order_ok (w.length : Int) (p.length : Int)) [] [] rfl Try.call218 (by simp) ?_ (by simp) ?_ (.inl rfl) (fun z hz => ?_)
        · simp -implicitDefEqProofs only [srR, Nat.reduceEqDiff, ↓reduceIte, ints, rows, intsO, rowsO]
        · simp -implicitDefEqProofs only [agR, Nat.reduceLeDiff, Nat.reduceSub, vaR, go_sem, ints, rows, rat, rats, ratsO, rtR, intsO, rowsO]
        simp -implicitDefEqProofs only [clR, Nat.reduceLeDiff, go_sem, evR, rat, intsO]
        refine ⟨by omega, hn2 _ (p ++ [1], q ++ [z]) (Weak.of _ _ [some 3, some 6, some 96, some 97, some 39, some 45] (by simp) (by simp) ?_ ?_) ⟨by simp; omega, by simp; omega⟩ (by simp; omega)⟩
        · simp -implicitDefEqProofs only [ints, rows, Nat.reduceBEq, wkR, Nat.reduceEqDiff, ↓reduceIte, wrR, nodes, next64 h8 (by omega), List.length_append, List.length_cons, List.length_nil]
        · refine ⟨⟨_, rfl, .refl _⟩, rfl, ⟨_, rfl, .refl _⟩, rfl, ⟨_, rfl, .refl _⟩, rfl, ⟨_, rfl, .refl _⟩, rfl, ⟨_, rfl, ?_⟩, rfl, ⟨_, rfl, ?_⟩, rfl, trivial⟩
          · simp only [intsO, List.map_append, List.map_cons, List.map_nil]; exact .refl _
          · simp only [intsO, List.map_append, List.map_cons, List.map_nil]; exact .refl _
    · simp -implicitDefEqProofs only [go_sem, evR, ints, rows, rat, rats, nodes, rowsO, intsO, decide_eq_false (show ¬ (p.length : Int) < (k : Int) by omega)]
      refine he2 _ _ ?_
      simp -implicitDefEqProofs only [go_sem, evR, ints, rows, rat, rats, nodes, rowsO, intsO]
      refine ⟨by omega, by omega, hn _ (w ++ [p], v ++ [q]) (Weak.of _ _ [some 3, some 6, some 49, some 53] (by simp) (by simp) ?_ ?_) ⟨by simp; omega, by simp; omega, rows_snoc4 i3 (by omega), rows_snoc4 i4 (by omega)⟩ (by simp; omega)⟩
      · simp -implicitDefEqProofs only [ints, rows, Nat.reduceBEq, wkR, Nat.reduceEqDiff, ↓reduceIte, wrR, nodes, next64 h9 (by omega), List.length_append, List.length_cons, List.length_nil]
      · refine ⟨⟨_, rfl, .refl _⟩, rfl, ⟨_, rfl, .refl _⟩, rfl, ⟨_, rfl, ?_⟩, rfl, ⟨_, rfl, ?_⟩, rfl, trivial⟩
        · simp only [rowsO, intsO, List.map_append, List.map_cons, List.map_nil]; exact .refl _
        · simp only [rowsO, intsO, List.map_append, List.map_cons, List.map_nil]; exact .refl _
  · simp -implicitDefEqProofs only [go_sem, evR, ints, rows, rat, rats, nodes, decide_eq_false (show ¬ (w.length : Int) < (k : Int) by omega)]
    refine he _ _ ?_
    have hp := spec_l21Tree_ok l ⟨by have := hl.1; omega, hl.2⟩
    simp only [treeT, nodes] at hp
    simp -implicitDefEqProofs only [go_sem, evR, ints, rows, rat, rats, nodes, rowsO]
    simp only [nodesO] at hp
    refine CallW.res hp [] rfl Try.call219 ?_ (.inl rfl) ?_
    · simp -implicitDefEqProofs only [agR, Nat.reduceLeDiff, Nat.reduceSub, vaR, go_sem, ints, rows, rat, rats, ratsO, rtR, intsO, rowsO]
    simp -implicitDefEqProofs only [clR, Nat.reduceLeDiff, go_sem, evR, rat, opR, Nat.reduceBEq]
    exact ⟨⟨l, w, v⟩, rfl, rfl, by show w.length = k; omega, i3, by show v.length = k; omega, i4⟩
theorem noShL_of : ∀ {l : List T}, (∀ t ∈ l, t.noSh) → T.noShL l
  | [], _ => trivial
  | t :: l, h => ⟨h t (List.mem_cons_self ..), noShL_of fun x hx => h x (List.mem_cons_of_mem _ hx)⟩
theorem nodesO_noSh (l : List Nd) : (T.arr 5 (chunk nodeCO l)).noSh := by
  refine noShL_of fun t ht => ?_
  simp only [chunk, List.mem_flatMap] at ht
  obtain ⟨x, _, hx⟩ := ht
  simp only [nodeCO, List.mem_cons, List.not_mem_nil, or_false] at hx
  rcases hx with rfl | rfl | rfl | rfl | rfl
  · trivial
  · trivial
  · trivial
  · trivial
  · exact intsO_noSh _
theorem gameO_noSh (g : Gm) : (T.agg [.arr 5 (chunk nodeCO g.nd), .arr 1 (g.w.map intsO), .arr 1 (g.v.map intsO)]).noSh := ⟨nodesO_noSh _, rowsO_noSh _, rowsO_noSh _, trivial⟩
def matOK (k : Nat) (m : List (List Int)) : Prop := m.length = k ∧ ∀ r ∈ m, r.length = k
theorem matOK_set {k : Nat} {m : List (List Int)} (h : matOK k m) (a : Nat) {r : List Int} (hr : r.length = k) : matOK k (m.set a r) := by
  refine ⟨by rw [List.length_set]; exact h.1, fun x hx => ?_⟩
  rcases List.mem_or_eq_of_mem_set hx with hx | rfl
  · exact h.2 x hx
  · exact hr
theorem matOK_get {k : Nat} {m : List (List Int)} (h : matOK k m) {a : Nat} (ha : a < k) : ∃ r, m[a]? = some r ∧ r.length = k := by
  have h1 : a < m.length := by rw [h.1]; exact ha
  exact ⟨m[a], List.getElem?_eq_getElem h1, h.2 _ (List.getElem_mem h1)⟩
def drG (g : Gm) : Prop := smallN 101 g.nd ∧ ∃ k, 1 ≤ k ∧ k ≤ 4 ∧ matOK k g.w ∧ matOK k g.v
theorem drG_small {g : Gm} (h : drG g) : smallG g := by
  obtain ⟨h1, k, h2, h3, h4, h5⟩ := h
  exact ⟨h1, by have := h4.1; omega, fun r hr => by have := h4.2 r hr; omega, by have := h5.1; omega, fun r hr => by have := h5.2 r hr; omega⟩
set_option maxRecDepth 20000 in
theorem spec_KuhnGame_w : Fun Try.prog 127 [] [] fun o r => ∃ g : Gm, o = [] ∧ r = gameO g ∧ drG g := by
  refine fun_spec_KuhnGame (by simp) ?_
  simp -implicitDefEqProofs only [go_sem, evR, ints, rows, rat, rats, c_spec_KuhnGame]
  obtain ⟨l', hl1, hl2, hp⟩ := spec_BetTree_w 1 1 0 (by omega) (by omega) (by omega) (by omega) (by omega)
  have hl' : smallN 100 l' ∧ 0 < l'.length := ⟨hl1, hl2⟩
  simp only [show ((0 : Nat) : Int) = 0 from rfl, nodesO] at hp
  refine CallW.res hp [] rfl Try.call184 ?_ (.inl rfl) ?_
  · simp -implicitDefEqProofs only [agR, Nat.reduceLeDiff, Nat.reduceSub, vaR, go_sem, ints, rows, rat, rats, ratsO, rtR, intsO, rowsO]
  simp -implicitDefEqProofs only [clR, Nat.reduceLeDiff, go_sem, evR, rat, opR, Nat.reduceBEq]
  have hq := spec_l21HighCard_w l' ⟨by have := hl'.1.1; omega, hl'.1.2⟩ 3 (by omega) false
  simp only [treeT, nodes, gameO, nodesO, rowsO, show ((3 : Nat) : Int) = 3 from rfl] at hq
  refine CallW.exi hq [] [8001] rfl Try.call185 (by simp) ?_ (by simp) ?_ (.inr (fun g => ⟨gameO_noSh g, trivial⟩)) (fun g hg => ?_)
  · simp -implicitDefEqProofs only [srR, Nat.reduceEqDiff, ↓reduceIte, ints, rows, intsO, rowsO]
  · simp -implicitDefEqProofs only [agR, Nat.reduceLeDiff, Nat.reduceSub, vaR, go_sem, ints, rows, rat, rats, ratsO, rtR, intsO, rowsO]
  simp -implicitDefEqProofs only [clR, Nat.reduceLeDiff, go_sem, evR, rat, opR, Nat.reduceBEq]
  obtain ⟨g1, g2, g3, g4, g5⟩ := hg
  exact ⟨g, rfl, ⟨by rw [g1]; have := hl'.1.1; omega, by rw [g1]; exact hl'.1.2⟩, 3, by omega, by omega, ⟨g2, g3⟩, ⟨g4, g5⟩⟩
set_option maxRecDepth 20000 in
theorem spec_l21Valid_w (cs : List Int) (hc : bytesOK cs) (hl : cs.length ≤ 100000000000) (a : Nat × Int) (ha : seedOK a) : Fun Try.prog 222 [.box [bytes cs, .i a.1, .i a.2]] [.own 1000000000] fun o r => ∃ x : Gm × (Nat × Int), o = [.box [bytes cs, .i x.2.1, .i x.2.2]] ∧ r = .agg [nodesO x.1.nd, rowsO x.1.w, rowsO x.1.v] ∧ (drG x.1 ∧ seedOK x.2) := by
  refine fun_spec_l21Valid_h (by simp) ?_
  simp -implicitDefEqProofs only [go_sem, evR, ints, rows, rat, rats, c_spec_l21Valid_h]
  refine CallW.ref (next_box cs hc hl a ha 6 (by omega)) [1000000000] [] rfl Try.call126 (by simp) ?_ (by simp) ?_ (.inl rfl) ?_
  · simp -implicitDefEqProofs only [srR, Nat.reduceEqDiff, ↓reduceIte, ints, rows, intsO, rowsO]
  · simp -implicitDefEqProofs only [agR, Nat.reduceLeDiff, Nat.reduceSub, vaR, go_sem, ints, rows, rat, rats, ratsO, rtR, intsO, rowsO]
  simp -implicitDefEqProofs only [clR, Nat.reduceLeDiff, go_sem, evR, rat]
  have hs1 := nextS_seed (cs := cs) hl ha 6
  generalize nextS cs a 6 = z at hs1 ⊢
  obtain ⟨k, b⟩ := z
  simp only [] at hs1 ⊢
  refine ⟨fun h0 => ?_, fun h0 => ⟨fun h1 => ?_, fun h1 => ?_⟩⟩
  · have hp := spec_KuhnGame_w
    simp only [gameO, nodesO, rowsO] at hp
    refine CallW.exi hp [] [] rfl Try.call127 (by simp) ?_ (by simp) ?_ (.inl rfl) (fun g hg => ?_)
    · simp -implicitDefEqProofs only [srR, Nat.reduceEqDiff, ↓reduceIte, ints, rows, intsO, rowsO]
    · simp -implicitDefEqProofs only [agR, Nat.reduceLeDiff, Nat.reduceSub, vaR, go_sem, ints, rows, rat, rats, ratsO, rtR, intsO, rowsO]
    simp -implicitDefEqProofs only [clR, Nat.reduceLeDiff, go_sem, evR, rat, opR, Nat.reduceBEq]
    exact ⟨(g, b), rfl, rfl, hg, hs1⟩
  · obtain ⟨⟨l, c⟩, ⟨hx1, hx2, hx3⟩, hV⟩ := spec_l20Valid_ok cs hc hl b hs1
    simp only [nodesO] at hx1 hx2 hx3 hV
    refine CallW.ref hV [1000000000] [] rfl Try.call227 (by simp) ?_ (by simp) ?_ (.inl rfl) ?_
    · simp -implicitDefEqProofs only [srR, Nat.reduceEqDiff, ↓reduceIte, ints, rows, intsO, rowsO]
    · simp -implicitDefEqProofs only [agR, Nat.reduceLeDiff, Nat.reduceSub, vaR, go_sem, ints, rows, rat, rats, ratsO, rtR, intsO, rowsO]
    simp -implicitDefEqProofs only [clR, Nat.reduceLeDiff, go_sem, evR, rat]
    refine CallW.ref (next_box cs hc hl c hx3 2 (by omega)) [1000000000] [] rfl Try.call126 (by simp) ?_ (by simp) ?_ (.inl rfl) ?_
    · simp -implicitDefEqProofs only [srR, Nat.reduceEqDiff, ↓reduceIte, ints, rows, intsO, rowsO]
    · simp -implicitDefEqProofs only [agR, Nat.reduceLeDiff, Nat.reduceSub, vaR, go_sem, ints, rows, rat, rats, ratsO, rtR, intsO, rowsO]
    simp -implicitDefEqProofs only [clR, Nat.reduceLeDiff, go_sem, evR, rat]
    have hs2 := nextS_seed (cs := cs) hl hx3 2
    have hb2 := nextS_bound (cs := cs) (a := c) (n := 2) (by omega)
    generalize nextS cs c 2 = z at hs2 hb2 ⊢
    obtain ⟨q, d⟩ := z
    simp only [] at hs2 hb2 ⊢
    obtain ⟨k, hk⟩ : ∃ n : Nat, IntKind.i64.wrap (2 + q) = n := ⟨(2 + q).toNat, by rw [wrap64 (by omega) (by omega)]; omega⟩
    have hk3 : 2 ≤ k ∧ k ≤ 3 := by rw [wrap64 (by omega) (by omega)] at hk; omega
    simp only [hk]
    have hq := spec_l21HighCard_w l ⟨by have := hx1.1; omega, hx1.2⟩ k (by omega) true
    simp only [treeT, nodes, gameO, nodesO, rowsO] at hq
    refine CallW.exi hq [] [15] rfl Try.call185 (by simp) ?_ (by simp) ?_ (.inr (fun g => ⟨gameO_noSh g, trivial⟩)) (fun g hg => ?_)
    · simp -implicitDefEqProofs only [srR, Nat.reduceEqDiff, ↓reduceIte, ints, rows, intsO, rowsO]
    · simp -implicitDefEqProofs only [agR, Nat.reduceLeDiff, Nat.reduceSub, vaR, go_sem, ints, rows, rat, rats, ratsO, rtR, intsO, rowsO]
    simp -implicitDefEqProofs only [clR, Nat.reduceLeDiff, go_sem, evR, rat, opR, Nat.reduceBEq]
    obtain ⟨g1, g2, g3, g4, g5⟩ := hg
    exact ⟨(g, d), rfl, rfl, ⟨⟨by rw [g1]; have := hx1.1; omega, by rw [g1]; exact hx1.2⟩, k, by omega, by omega, ⟨g2, g3⟩, ⟨g4, g5⟩⟩, hs2⟩
  · refine CallW.ref (next_box cs hc hl b hs1 3 (by omega)) [1000000000] [] rfl Try.call126 (by simp) ?_ (by simp) ?_ (.inl rfl) ?_
    · simp -implicitDefEqProofs only [srR, Nat.reduceEqDiff, ↓reduceIte, ints, rows, intsO, rowsO]
    · simp -implicitDefEqProofs only [agR, Nat.reduceLeDiff, Nat.reduceSub, vaR, go_sem, ints, rows, rat, rats, ratsO, rtR, intsO, rowsO]
    simp -implicitDefEqProofs only [clR, Nat.reduceLeDiff, go_sem, evR, rat]
    have hs2 := nextS_seed (cs := cs) hl hs1 3
    have hb2 := nextS_bound (cs := cs) (a := b) (n := 3) (by omega)
    generalize nextS cs b 3 = z at hs2 hb2 ⊢
    obtain ⟨q, d⟩ := z
    simp only [] at hs2 hb2 ⊢
    obtain ⟨k, hk⟩ : ∃ n : Nat, IntKind.i64.wrap (1 + q) = n := ⟨(1 + q).toNat, by rw [wrap64 (by omega) (by omega)]; omega⟩
    have hk3 : 1 ≤ k ∧ k ≤ 3 := by rw [wrap64 (by omega) (by omega)] at hk; omega
    simp only [hk]
    obtain ⟨⟨l, c⟩, ⟨hx1, hx2, hx3⟩, hV⟩ := spec_l20Valid_ok cs hc hl d hs2
    simp only [nodesO] at hx1 hx2 hx3 hV
    refine CallW.ref hV [1000000000] [] rfl Try.call227 (by simp) ?_ (by simp) ?_ (.inl rfl) ?_
    · simp -implicitDefEqProofs only [srR, Nat.reduceEqDiff, ↓reduceIte, ints, rows, intsO, rowsO]
    · simp -implicitDefEqProofs only [agR, Nat.reduceLeDiff, Nat.reduceSub, vaR, go_sem, ints, rows, rat, rats, ratsO, rtR, intsO, rowsO]
    simp -implicitDefEqProofs only [clR, Nat.reduceLeDiff, go_sem, evR, rat]
    have hq := spec_l21HighCard_w l ⟨by have := hx1.1; omega, hx1.2⟩ k (by omega) true
    simp only [treeT, nodes, gameO, nodesO, rowsO] at hq
    refine CallW.exi hq [] [24] rfl Try.call185 (by simp) ?_ (by simp) ?_ (.inr (fun g => ⟨gameO_noSh g, trivial⟩)) (fun g hg => ?_)
    · simp -implicitDefEqProofs only [srR, Nat.reduceEqDiff, ↓reduceIte, ints, rows, intsO, rowsO]
    · simp -implicitDefEqProofs only [agR, Nat.reduceLeDiff, Nat.reduceSub, vaR, go_sem, ints, rows, rat, rats, ratsO, rtR, intsO, rowsO]
    simp -implicitDefEqProofs only [clR, Nat.reduceLeDiff, go_sem, evR, rat, opR, Nat.reduceBEq]
    obtain ⟨g1, g2, g3, g4, g5⟩ := hg
    obtain rfl : g.nd = l := g1
    refine SemC.loopR (σ := Nat × (List (List Int) × List (List Int)) × (Nat × Int)) (fun s => St.of [(0, .own 1000000000), (2, .own 2), (3, .t (.i k)), (4, .own 4), (5, .t (.i s.1))] [(1000000000, .box [bytes cs, .i s.2.2.1, .i s.2.2.2]), (2, .box [.v (.slice none 0 0), .v (.slice none 0 0), .v (.slice none 0 0)]), (4, .box [nodesO g.nd, rowsO s.2.1.1, rowsO s.2.1.2])]) (fun s => s.1 ≤ k ∧ matOK k s.2.1.1 ∧ matOK k s.2.1.2 ∧ seedOK s.2.2) (fun s => k - s.1) (0, (g.w, g.v), c) (Weak.of _ _ [some 1000000000, some 2, some 4] (by simp) (by simp) ?_ ?_) ⟨by simp, ⟨g2, g3⟩, ⟨g4, g5⟩, hx3⟩ fun s hI R hn hr he => ?_
    · simp -implicitDefEqProofs only [ints, rows, Nat.reduceBEq, wkR, Nat.reduceEqDiff, ↓reduceIte, wrR, nodesO]
    · exact ⟨⟨_, rfl, .refl _⟩, rfl, ⟨_, rfl, .refl _⟩, rfl, ⟨_, rfl, .refl _⟩, rfl, trivial⟩
    obtain ⟨i, ⟨w, v⟩, e⟩ := s
    obtain ⟨i1, i2, i3, i4⟩ := hI
    (try simp only [] at i1 i2 i3 i4)
    rcases Nat.lt_or_ge i k with h9 | h9
    · simp -implicitDefEqProofs only [go_sem, evR, ints, rows, rat, rats, nodesO, rowsO, decide_eq_true (show (i : Int) < (k : Int) by omega)]
      refine SemC.loopR (σ := Nat × (List (List Int) × List (List Int)) × (Nat × Int)) (fun s => St.of [(0, .own 1000000000), (2, .own 2), (3, .t (.i k)), (4, .own 4), (5, .t (.i i)), (6, .t (.i s.1))] [(1000000000, .box [bytes cs, .i s.2.2.1, .i s.2.2.2]), (2, .box [.v (.slice none 0 0), .v (.slice none 0 0), .v (.slice none 0 0)]), (4, .box [nodesO g.nd, rowsO s.2.1.1, rowsO s.2.1.2])]) (fun s => s.1 ≤ k ∧ matOK k s.2.1.1 ∧ matOK k s.2.1.2 ∧ seedOK s.2.2) (fun s => k - s.1) (0, (w, v), e) (Weak.of _ _ [some 1000000000, some 2, some 4] (by simp) (by simp) ?_ ?_) ⟨by simp, i2, i3, i4⟩ fun s hI R2 hn2 hr2 he2 => ?_
      · simp -implicitDefEqProofs only [ints, rows, Nat.reduceBEq, wkR, Nat.reduceEqDiff, ↓reduceIte, wrR, nodesO]
      · exact ⟨⟨_, rfl, .refl _⟩, rfl, ⟨_, rfl, .refl _⟩, rfl, ⟨_, rfl, .refl _⟩, rfl, trivial⟩
      obtain ⟨j, ⟨w', v'⟩, f⟩ := s
      obtain ⟨j1, j2, j3, j4⟩ := hI
      (try simp only [] at j1 j2 j3 j4)
      obtain ⟨r0, hr0, hr0l⟩ := matOK_get j2 h9
      obtain ⟨s0, hs0, hs0l⟩ := matOK_get j3 h9
      rcases Nat.lt_or_ge j k with h8 | h8
      · simp -implicitDefEqProofs only [go_sem, evR, ints, rows, rat, rats, nodesO, rowsO, decide_eq_true (show (j : Int) < (k : Int) by omega)]
        refine ⟨_, Weak.trans (Weak.open 4 1 501 rfl rfl rfl (by decide) rfl) (Weak.open 501 i 502 (l := w'.map intsO) (lk := []) (c := intsO r0) rfl (by rw [List.getElem?_map, hr0]; rfl) rfl (by decide) rfl), ?_⟩
        simp -implicitDefEqProofs only [go_sem, evR, ints, rows, rat, rats, List.lookup_cons, beq_self_eq_true, intsO, List.length_set]
        have hwl : w'.length = k := j2.1
        have hvl : v'.length = k := j3.1
        refine ⟨by omega, by omega, by omega, ?_⟩
        refine CallH.ref (next_box cs hc hl f j4 4 (by omega)) [1000000000] [] rfl Try.call126 (by simp) ?_ (by simp) (fun e R' hR => ?_) (.inl rfl) ?_
        · simp -implicitDefEqProofs only [srR, Nat.reduceEqDiff, ↓reduceIte, ints, rows, intsO, rowsO]
        · simp -implicitDefEqProofs only [agR, Nat.reduceLeDiff, Nat.reduceSub, vaR, go_sem, ints, rows, rat, rats, ratsO, rtR, intsO, rowsO]
        simp -implicitDefEqProofs only [clR, Nat.reduceLeDiff, go_sem, evR, rat]
        have hs5 := nextS_seed (cs := cs) hl j4 4
        generalize nextS cs f 4 = z at hs5 ⊢
        obtain ⟨y, f2⟩ := z
        simp only [] at hs5 ⊢
        refine ⟨?_, (frameOK.refl _ _ _).upd _ (.inl (by simp))⟩
        refine ⟨by omega, by omega, by omega, ?_⟩
        refine CallW.ref (next_box cs hc hl f2 hs5 4 (by omega)) [1000000000] [] rfl Try.call126 (by simp) ?_ (by simp) ?_ (.inl rfl) ?_
        · simp -implicitDefEqProofs only [srR, Nat.reduceEqDiff, ↓reduceIte, ints, rows, intsO, rowsO]
        · simp -implicitDefEqProofs only [agR, Nat.reduceLeDiff, Nat.reduceSub, vaR, go_sem, ints, rows, rat, rats, ratsO, rtR, intsO, rowsO]
        simp -implicitDefEqProofs only [clR, Nat.reduceLeDiff, go_sem, evR, rat]
        have hs6 := nextS_seed (cs := cs) hl hs5 4
        generalize nextS cs f2 4 = z at hs6 ⊢
        obtain ⟨y2, f3⟩ := z
        simp only [] at hs6 ⊢
        have hany : ((w'.map intsO).set i T.any)[i]? = some .any := by rw [List.getElem?_set_self (by rw [List.length_map]; omega)]
        have hany2 : ((v'.map intsO).set i T.any)[i]? = some .any := by rw [List.getElem?_set_self (by rw [List.length_map]; omega)]
        have hrow : ((w'.map intsO).set i T.any).set i (.arr 1 ((r0.map T.i).set j (.i y))) = (w'.set i (r0.set j y)).map intsO := by
          rw [List.set_set, List.map_set, intsO, List.map_set]
        refine ⟨fun hz => ?_, fun hz => ?_⟩
        · refine ⟨_, Weak.trans (Weak.close1 501 i 502 rfl rfl (by decide) hany) (Weak.trans (Weak.close1 4 1 501 rfl rfl (by decide) rfl) (Weak.trans (Weak.open 4 2 503 rfl rfl rfl (by decide) rfl) (Weak.open 503 i 504 (l := v'.map intsO) (lk := []) (c := intsO s0) rfl (by rw [List.getElem?_map, hs0]; rfl) rfl (by decide) rfl))), ?_⟩
          simp -implicitDefEqProofs only [go_sem, evR, ints, rows, rat, rats, List.lookup_cons, beq_self_eq_true, intsO, List.length_set]
          refine ⟨by omega, by omega, by omega, ?_⟩
          refine CallH.ref (next_box cs hc hl f3 hs6 3 (by omega)) [1000000000] [] rfl Try.call126 (by simp) ?_ (by simp) (fun e R' hR => ?_) (.inl rfl) ?_
          · simp -implicitDefEqProofs only [srR, Nat.reduceEqDiff, ↓reduceIte, ints, rows, intsO, rowsO]
          · simp -implicitDefEqProofs only [agR, Nat.reduceLeDiff, Nat.reduceSub, vaR, go_sem, ints, rows, rat, rats, ratsO, rtR, intsO, rowsO]
          simp -implicitDefEqProofs only [clR, Nat.reduceLeDiff, go_sem, evR, rat]
          have hs7 := nextS_seed (cs := cs) hl hs6 3
          generalize nextS cs f3 3 = z at hs7 ⊢
          obtain ⟨y3, f4⟩ := z
          simp only [] at hs7 ⊢
          have hrow2 : ((v'.map intsO).set i T.any).set i (.arr 1 ((s0.map T.i).set j (.i (IntKind.i64.wrap (y3 - 1))))) = (v'.set i (s0.set j (IntKind.i64.wrap (y3 - 1)))).map intsO := by
            rw [List.set_set, List.map_set, intsO, List.map_set]
          refine ⟨?_, (frameOK.refl _ _ _).upd _ (.inl (by simp))⟩
          refine ⟨by omega, by omega, by omega, ?_⟩
          refine hn2 _ (j + 1, (w'.set i (r0.set j y), v'.set i (s0.set j (IntKind.i64.wrap (y3 - 1)))), f4) (Weak.trans (Weak.close1 503 i 504 rfl rfl (by decide) hany2) (Weak.trans (Weak.close1 4 2 503 rfl rfl (by decide) rfl) (Weak.of _ _ [some 1000000000, some 2, some 4] (by simp) (by simp) ?_ ?_))) ⟨by omega, matOK_set j2 _ (by rw [List.length_set]; exact hr0l), matOK_set j3 _ (by rw [List.length_set]; exact hs0l), hs7⟩ (by show k - (j + 1) < k - j; omega)
          · simp -implicitDefEqProofs only [ints, rows, Nat.reduceBEq, wkR, Nat.reduceEqDiff, ↓reduceIte, wrR, nodesO, next64 h8 (by omega)]
          · refine ⟨⟨_, rfl, .refl _⟩, rfl, ⟨_, rfl, .refl _⟩, rfl, ⟨_, rfl, ?_⟩, rfl, trivial⟩
            have hrow1 : (w'.map intsO).set i (.arr 1 ((r0.map T.i).set j (.i y))) = (w'.set i (r0.set j y)).map intsO := by rw [List.map_set, intsO, List.map_set]
            rw [hrow2, hrow1]; exact .refl _
        · refine hn2 _ (j + 1, (w'.set i (r0.set j y), v'), f3) (Weak.trans (Weak.close1 501 i 502 rfl rfl (by decide) hany) (Weak.trans (Weak.close1 4 1 501 rfl rfl (by decide) rfl) (Weak.of _ _ [some 1000000000, some 2, some 4] (by simp) (by simp) ?_ ?_))) ⟨by omega, matOK_set j2 _ (by rw [List.length_set]; exact hr0l), j3, hs6⟩ (by show k - (j + 1) < k - j; omega)
          · simp -implicitDefEqProofs only [ints, rows, Nat.reduceBEq, wkR, Nat.reduceEqDiff, ↓reduceIte, wrR, nodesO, next64 h8 (by omega)]
          · refine ⟨⟨_, rfl, .refl _⟩, rfl, ⟨_, rfl, .refl _⟩, rfl, ⟨_, rfl, ?_⟩, rfl, trivial⟩
            rw [hrow]; exact .refl _
      · simp -implicitDefEqProofs only [go_sem, evR, ints, rows, rat, rats, nodesO, rowsO, decide_eq_false (show ¬ (j : Int) < (k : Int) by omega)]
        refine he2 _ _ ?_
        simp -implicitDefEqProofs only [go_sem, evR, ints, rows, rat, rats, nodesO, rowsO]
        refine hn _ (i + 1, (w', v'), f) (Weak.of _ _ [some 1000000000, some 2, some 4] (by simp) (by simp) ?_ ?_) ⟨by omega, j2, j3, j4⟩ (by show k - (i + 1) < k - i; omega)
        · simp -implicitDefEqProofs only [ints, rows, Nat.reduceBEq, wkR, Nat.reduceEqDiff, ↓reduceIte, wrR, nodesO, next64 h9 (by omega)]
        · exact ⟨⟨_, rfl, .refl _⟩, rfl, ⟨_, rfl, .refl _⟩, rfl, ⟨_, rfl, .refl _⟩, rfl, trivial⟩
    · simp -implicitDefEqProofs only [go_sem, evR, ints, rows, rat, rats, nodesO, rowsO, decide_eq_false (show ¬ (i : Int) < (k : Int) by omega)]
      refine he _ _ ?_
      simp -implicitDefEqProofs only [go_sem, evR, ints, rows, rat, rats, nodesO, rowsO]
      obtain ⟨r0, hr0, hr0l⟩ := matOK_get i2 (a := 0) (by omega)
      obtain ⟨y, hy⟩ : ∃ y, r0[0]? = some y := ⟨_, List.getElem?_eq_getElem (by omega)⟩
      have hwl : w.length = k := i2.1
      refine ⟨_, Weak.trans (Weak.open 4 1 501 rfl rfl rfl (by decide) rfl) (Weak.open 501 0 502 (l := w.map intsO) (lk := []) (c := intsO r0) rfl (by rw [List.getElem?_map, hr0]; rfl) rfl (by decide) rfl), ?_⟩
      simp -implicitDefEqProofs only [go_sem, evR, ints, rows, rat, rats, List.lookup_cons, beq_self_eq_true, intsO, List.length_set, hy]
      have hany : ((w.map intsO).set 0 T.any)[0]? = some .any := by rw [List.getElem?_set_self (by rw [List.length_map]; omega)]
      refine ⟨by omega, by omega, by omega, by omega, by omega, by omega, by omega, by omega, _, Weak.trans (Weak.close1 501 0 502 rfl rfl (by decide) hany) (Weak.close1 4 1 501 rfl rfl (by decide) rfl), ?_⟩
      simp -implicitDefEqProofs only [go_sem, evR, ints, rows, rat, rats, opR, Nat.reduceBEq, List.set_set]
      refine ⟨(⟨g.nd, w.set 0 (r0.set 0 (max 1 y)), v⟩, e), rfl, ?_, ⟨⟨by have := hx1.1; show g.nd.length ≤ 101; omega, hx1.2⟩, k, by omega, by omega, matOK_set i2 _ (by rw [List.length_set]; exact hr0l), i3⟩, i4⟩
      simp only [List.map_set, intsO]
def drawnG (b : Bool) (g : Gm) : T := .agg [if b then nodes g.nd else .arr 5 (chunk nodeC g.nd), rows g.w, rows g.v]
set_option maxRecDepth 20000 in
theorem spec_l21Draw_w (cs : List Int) (hc : bytesOK cs) (hl : cs.length ≤ 100000000000) (a : Nat × Int) (ha : seedOK a) : Fun Try.prog 190 [.box [bytes cs, .i a.1, .i a.2]] [.own 1000000000] fun o r => ∃ x : (Gm × Bool) × (Nat × Int), o = [.box [bytes cs, .i x.2.1, .i x.2.2]] ∧ r = drawnG x.1.2 x.1.1 ∧ (smallG x.1.1 ∧ seedOK x.2) := by
  refine fun_spec_l21Draw_h (by simp) ?_
  simp -implicitDefEqProofs only [go_sem, evR, ints, rows, rat, rats, c_spec_l21Draw_h]
  have hp0 := spec_l21Valid_w cs hc hl a ha
  simp only [nodesO, rowsO] at hp0
  refine CallW.exi hp0 [1000000000] [] rfl Try.call222 (by simp) ?_ (by simp) ?_ (.inl rfl) (fun x hx => ?_)
  · simp -implicitDefEqProofs only [srR, Nat.reduceEqDiff, ↓reduceIte, ints, rows, intsO, rowsO]
  · simp -implicitDefEqProofs only [agR, Nat.reduceLeDiff, Nat.reduceSub, vaR, go_sem, ints, rows, rat, rats, ratsO, rtR, intsO, rowsO]
  simp -implicitDefEqProofs only [clR, Nat.reduceLeDiff, go_sem, evR, rat, opR, Nat.reduceBEq]
  obtain ⟨g, e⟩ := x
  obtain ⟨⟨hx1, K, hK1, hK2, hw, hv⟩, hx3⟩ := hx
  (try simp only [] at hx1 hx3 hw hv)
  have hwl := hw.1
  have hvl := hv.1
  (try simp only [])
  refine CallW.ref (next_box cs hc hl e hx3 g.w.length (by omega)) [1000000000] [] rfl Try.call126 (by simp) ?_ (by simp) ?_ (.inl rfl) ?_
  · simp -implicitDefEqProofs only [srR, Nat.reduceEqDiff, ↓reduceIte, ints, rows, intsO, rowsO]
  · simp -implicitDefEqProofs only [agR, Nat.reduceLeDiff, Nat.reduceSub, vaR, go_sem, ints, rows, rat, rats, ratsO, rtR, intsO, rowsO]
  simp -implicitDefEqProofs only [clR, Nat.reduceLeDiff, go_sem, evR, rat]
  have hs1 := nextS_seed (cs := cs) hl hx3 g.w.length
  have hb1 := nextS_bound (cs := cs) (a := e) (n := g.w.length) (by omega)
  generalize nextS cs e g.w.length = z at hs1 hb1 ⊢
  obtain ⟨k, b⟩ := z
  simp only [] at hs1 hb1 ⊢
  obtain ⟨k, rfl⟩ : ∃ n : Nat, k = n := ⟨k.toNat, by omega⟩
  refine CallW.ref (next_box cs hc hl b hs1 24 (by omega)) [1000000000] [] rfl Try.call126 (by simp) ?_ (by simp) ?_ (.inl rfl) ?_
  · simp -implicitDefEqProofs only [srR, Nat.reduceEqDiff, ↓reduceIte, ints, rows, intsO, rowsO]
  · simp -implicitDefEqProofs only [agR, Nat.reduceLeDiff, Nat.reduceSub, vaR, go_sem, ints, rows, rat, rats, ratsO, rtR, intsO, rowsO]
  simp -implicitDefEqProofs only [clR, Nat.reduceLeDiff, go_sem, evR, rat, List.lookup_cons, beq_self_eq_true]
  have hs2 := nextS_seed (cs := cs) hl hs1 24
  generalize nextS cs b 24 = z at hs2 ⊢
  obtain ⟨q, c⟩ := z
  simp only [] at hs2 ⊢
  obtain ⟨r0, hr0, hr0l⟩ := matOK_get hw (a := k) (by omega)
  obtain ⟨s0, hs0, hs0l⟩ := matOK_get hv (a := k) (by omega)
  have hsm := drG_small (g := g) ⟨hx1, K, hK1, hK2, hw, hv⟩
  have hany : ((g.w.map intsO).set k T.any)[k]? = some .any := by rw [List.getElem?_set_self (by rw [List.length_map]; omega)]
  have hany2 : ((g.v.map intsO).set k T.any)[k]? = some .any := by rw [List.getElem?_set_self (by rw [List.length_map]; omega)]
  refine ⟨fun q0 => ?_, fun q0 => ⟨fun q1 => ?_, fun q1 => ⟨fun q2 => ?_, fun q2 => ⟨fun q3 => ?_, fun q3 => ?_⟩⟩⟩⟩
  · refine ⟨_, Weak.open 9 k 502 (l := g.w.map intsO) (lk := []) (c := intsO r0) rfl (by rw [List.getElem?_map, hr0]; rfl) rfl (by decide) rfl, ?_⟩
    simp -implicitDefEqProofs only [go_sem, evR, ints, rows, rat, rats, List.lookup_cons, beq_self_eq_true, intsO, List.length_set]
    have hp := pick_own cs hc hl c hs2 [-1, 0, 9, 10] (by simp) (by simp)
    simp only [intsO, List.map_cons, List.map_nil] at hp
    refine ⟨by omega, by omega, by omega, ?_⟩
    refine CallH.ref hp [1000000000, 22] [] rfl Try.call147 (by simp) ?_ (by simp) (fun e R' hR => ?_) (.inl rfl) ?_
    · simp -implicitDefEqProofs only [srR, Nat.reduceEqDiff, ↓reduceIte, ints, rows, intsO, rowsO]
    · simp -implicitDefEqProofs only [agR, Nat.reduceLeDiff, Nat.reduceSub, vaR, go_sem, ints, rows, rat, rats, ratsO, rtR, intsO, rowsO]
    simp -implicitDefEqProofs only [clR, Nat.reduceLeDiff, go_sem, evR, rat]
    have hs3 := pickS_seed (cs := cs) hl hs2 [-1, 0, 9, 10]
    generalize pickS cs c [-1, 0, 9, 10] = z at hs3 ⊢
    obtain ⟨v, d⟩ := z
    simp only [] at hs3 ⊢
    have hrow : ((g.w.map intsO).set k T.any).set k (.arr 1 ((r0.map T.i).set 0 (.i v))) = (g.w.set k (r0.set 0 v)).map intsO := by
      rw [List.set_set, List.map_set, intsO, List.map_set]
    refine ⟨?_, ((frameOK.refl _ _ _).upd _ (.inl (by simp))).upd _ (.inl (by simp))⟩
    refine ⟨by omega, by omega, _, Weak.trans (Weak.close1 9 k 502 rfl rfl (by decide) hany) (Weak.trans (Weak.close1 3 1 9 rfl rfl (by decide) rfl) (Weak.trans (Weak.share 3 rfl) (Weak.of [(0, .own 1000000000), (2, .own 2), (3, .t (.pin [nodes g.nd, rows (g.w.set k (r0.set 0 v)), rows g.v] 0))] [(1000000000, .box [bytes cs, .i d.1, .i d.2]), (2, .box [.v (.slice none 0 0), .v (.slice none 0 0), .v (.slice none 0 0)])] [some 1000000000, some 2] (by simp) (by simp) ?_ ?_))), ?_⟩
    · simp -implicitDefEqProofs only [ints, rows, Nat.reduceBEq, wkR, Nat.reduceEqDiff, ↓reduceIte, wrR, shareA, T.toSh, T.toShL, toShL_chunk, toShL_intsO, nodes, List.set_cons_succ, List.set_cons_zero, hrow]
    · exact ⟨⟨_, rfl, .refl _⟩, rfl, ⟨_, rfl, .refl _⟩, rfl, trivial⟩
    simp -implicitDefEqProofs only [go_sem, evR, ints, rows, rat, rats, nodes]
    exact ⟨((⟨g.nd, g.w.set k (r0.set 0 v), g.v⟩, true), d), rfl, rfl, drG_small ⟨hx1, K, hK1, hK2, matOK_set hw _ (by rw [List.length_set]; exact hr0l), hv⟩, hs3⟩
  · refine ⟨_, Weak.trans (Weak.open 3 2 503 rfl rfl rfl (by decide) rfl) (Weak.open 503 k 504 (l := g.v.map intsO) (lk := []) (c := intsO s0) rfl (by rw [List.getElem?_map, hs0]; rfl) rfl (by decide) rfl), ?_⟩
    simp -implicitDefEqProofs only [go_sem, evR, ints, rows, rat, rats, List.lookup_cons, beq_self_eq_true, intsO, List.length_set]
    have hp := pick_own cs hc hl c hs2 [-2, 2] (by simp) (by simp)
    simp only [intsO, List.map_cons, List.map_nil] at hp
    refine ⟨by omega, by omega, by omega, ?_⟩
    refine CallH.ref hp [1000000000, 33] [] rfl Try.call147 (by simp) ?_ (by simp) (fun e R' hR => ?_) (.inl rfl) ?_
    · simp -implicitDefEqProofs only [srR, Nat.reduceEqDiff, ↓reduceIte, ints, rows, intsO, rowsO]
    · simp -implicitDefEqProofs only [agR, Nat.reduceLeDiff, Nat.reduceSub, vaR, go_sem, ints, rows, rat, rats, ratsO, rtR, intsO, rowsO]
    simp -implicitDefEqProofs only [clR, Nat.reduceLeDiff, go_sem, evR, rat]
    have hs3 := pickS_seed (cs := cs) hl hs2 [-2, 2]
    generalize pickS cs c [-2, 2] = z at hs3 ⊢
    obtain ⟨v, d⟩ := z
    simp only [] at hs3 ⊢
    have hrow : ((g.v.map intsO).set k T.any).set k (.arr 1 ((s0.map T.i).set 0 (.i v))) = (g.v.set k (s0.set 0 v)).map intsO := by
      rw [List.set_set, List.map_set, intsO, List.map_set]
    refine ⟨?_, ((frameOK.refl _ _ _).upd _ (.inl (by simp))).upd _ (.inl (by simp))⟩
    refine ⟨by omega, by omega, _, Weak.trans (Weak.close1 503 k 504 rfl rfl (by decide) hany2) (Weak.trans (Weak.close 3 2 503 rfl rfl (by decide) rfl (by simp)) (Weak.trans (Weak.close1 3 1 9 rfl rfl (by decide) rfl) (Weak.trans (Weak.share 3 rfl) (Weak.of [(0, .own 1000000000), (2, .own 2), (3, .t (.pin [nodes g.nd, rows g.w, rows (g.v.set k (s0.set 0 v))] 0))] [(1000000000, .box [bytes cs, .i d.1, .i d.2]), (2, .box [.v (.slice none 0 0), .v (.slice none 0 0), .v (.slice none 0 0)])] [some 1000000000, some 2] (by simp) (by simp) ?_ ?_)))), ?_⟩
    · simp -implicitDefEqProofs only [ints, rows, Nat.reduceBEq, wkR, Nat.reduceEqDiff, ↓reduceIte, wrR, shareA, T.toSh, T.toShL, toShL_chunk, toShL_intsO, nodes, List.set_cons_succ, List.set_cons_zero, hrow]
    · exact ⟨⟨_, rfl, .refl _⟩, rfl, ⟨_, rfl, .refl _⟩, rfl, trivial⟩
    simp -implicitDefEqProofs only [go_sem, evR, ints, rows, rat, rats, nodes]
    exact ⟨((⟨g.nd, g.w, g.v.set k (s0.set 0 v)⟩, true), d), rfl, rfl, drG_small ⟨hx1, K, hK1, hK2, hw, matOK_set hv _ (by rw [List.length_set]; exact hs0l)⟩, hs3⟩
  · refine ⟨_, Weak.trans (Weak.close1 3 1 9 rfl rfl (by decide) rfl) (Weak.trans (Weak.share 3 rfl) (Weak.of [(0, .own 1000000000), (2, .own 2), (3, .t (.pin [nodes g.nd, rows g.w, rows g.v] 0))] [(1000000000, .box [bytes cs, .i c.1, .i c.2]), (2, .box [.v (.slice none 0 0), .v (.slice none 0 0), .v (.slice none 0 0)])] [some 1000000000, some 2] (by simp) (by simp) ?_ ?_)), ?_⟩
    · simp -implicitDefEqProofs only [ints, rows, Nat.reduceBEq, wkR, Nat.reduceEqDiff, ↓reduceIte, wrR, shareA, T.toSh, T.toShL, toShL_chunk, toShL_intsO, nodes, List.set_cons_succ, List.set_cons_zero]
    · exact ⟨⟨_, rfl, .refl _⟩, rfl, ⟨_, rfl, .refl _⟩, rfl, trivial⟩
    simp -implicitDefEqProofs only [go_sem, evR, ints, rows, rat, rats, nodes]
    refine ⟨by omega, by omega, ((⟨g.nd, g.w, g.v.drop 1⟩, true), c), rfl, ?_, ⟨hsm.1, hsm.2.1, hsm.2.2.1, by show (g.v.drop 1).length ≤ 4; rw [List.length_drop]; omega, fun r hr => hsm.2.2.2.2 r (List.mem_of_mem_drop hr)⟩, hs2⟩
    rw [List.take_of_length_le (by rw [List.length_drop, List.length_map]; omega), ← List.map_drop]; rfl
  · refine ⟨_, Weak.trans (Weak.close1 3 1 9 rfl rfl (by decide) rfl) (Weak.trans (Weak.share 3 rfl) (Weak.of [(0, .own 1000000000), (2, .own 2), (3, .t (.pin [nodes g.nd, rows g.w, rows g.v] 0))] [(1000000000, .box [bytes cs, .i c.1, .i c.2]), (2, .box [.v (.slice none 0 0), .v (.slice none 0 0), .v (.slice none 0 0)])] [some 1000000000, some 2] (by simp) (by simp) ?_ ?_)), ?_⟩
    · simp -implicitDefEqProofs only [ints, rows, Nat.reduceBEq, wkR, Nat.reduceEqDiff, ↓reduceIte, wrR, shareA, T.toSh, T.toShL, toShL_chunk, toShL_intsO, nodes, List.set_cons_succ, List.set_cons_zero]
    · exact ⟨⟨_, rfl, .refl _⟩, rfl, ⟨_, rfl, .refl _⟩, rfl, trivial⟩
    simp -implicitDefEqProofs only [go_sem, evR, ints, rows, rat, rats, nodes]
    obtain ⟨⟨⟨l2, bb⟩, d⟩, ⟨hy1, hy2⟩, hT⟩ := spec_l20Draw_ok cs hc hl c hs2
    (try simp only [] at hy1 hy2 hT)
    cases bb
    · simp only [drawnT, Bool.false_eq_true, if_false] at hT
      refine CallH.ref hT [1000000000] [] rfl Try.call223 (by simp) ?_ (by simp) (fun e R' hR => ?_) (.inl rfl) ?_
      · simp -implicitDefEqProofs only [srR, Nat.reduceEqDiff, ↓reduceIte, ints, rows, intsO, rowsO]
      · simp -implicitDefEqProofs only [agR, Nat.reduceLeDiff, Nat.reduceSub, vaR, go_sem, ints, rows, rat, rats, ratsO, rtR, intsO, rowsO]
      simp -implicitDefEqProofs only [clR, Nat.reduceLeDiff, go_sem, evR, rat]
      exact ⟨⟨((⟨l2, g.w, g.v⟩, false), d), rfl, rfl, ⟨hy1, hsm.2⟩, hy2⟩, ((frameOK.refl _ _ _).upd _ (.inl (by simp))).upd _ (.inr rfl)⟩
    · simp only [drawnT, if_true, nodes] at hT
      refine CallH.ref hT [1000000000] [] rfl Try.call223 (by simp) ?_ (by simp) (fun e R' hR => ?_) (.inl rfl) ?_
      · simp -implicitDefEqProofs only [srR, Nat.reduceEqDiff, ↓reduceIte, ints, rows, intsO, rowsO]
      · simp -implicitDefEqProofs only [agR, Nat.reduceLeDiff, Nat.reduceSub, vaR, go_sem, ints, rows, rat, rats, ratsO, rtR, intsO, rowsO]
      simp -implicitDefEqProofs only [clR, Nat.reduceLeDiff, go_sem, evR, rat]
      exact ⟨⟨((⟨l2, g.w, g.v⟩, true), d), rfl, rfl, ⟨hy1, hsm.2⟩, hy2⟩, (frameOK.refl _ _ _).upd _ (.inl (by simp))⟩
  · refine ⟨_, Weak.trans (Weak.close1 3 1 9 rfl rfl (by decide) rfl) (Weak.trans (Weak.share 3 rfl) (Weak.of [(0, .own 1000000000), (2, .own 2), (3, .t (.pin [nodes g.nd, rows g.w, rows g.v] 0))] [(1000000000, .box [bytes cs, .i c.1, .i c.2]), (2, .box [.v (.slice none 0 0), .v (.slice none 0 0), .v (.slice none 0 0)])] [some 1000000000, some 2] (by simp) (by simp) ?_ ?_)), ?_⟩
    · simp -implicitDefEqProofs only [ints, rows, Nat.reduceBEq, wkR, Nat.reduceEqDiff, ↓reduceIte, wrR, shareA, T.toSh, T.toShL, toShL_chunk, toShL_intsO, nodes, List.set_cons_succ, List.set_cons_zero]
    · exact ⟨⟨_, rfl, .refl _⟩, rfl, ⟨_, rfl, .refl _⟩, rfl, trivial⟩
    simp -implicitDefEqProofs only [go_sem, evR, ints, rows, rat, rats, nodes]
    exact ⟨((g, true), c), rfl, rfl, hsm, hs2⟩
end
end Go.Ab

/- Contracts: parts, the reference's. -/
set_option linter.unusedSimpArgs false
set_option linter.unusedVariables false
namespace Go.Ab
open Go.Proofs

theorem quoL_snoc {t : Int} {w : List Int} {i : Nat} {x : Int} (h : w[i]? = some x) : quoL t (w.take (i + 1)) = quoL t (w.take i) ++ [60 * x / t] := by rw [take_snoc h]; simp [quoL]
theorem remL_snoc {t : Int} {w : List Int} {i : Nat} {x : Int} (h : w[i]? = some x) : remL t (w.take (i + 1)) = remL t (w.take i) ++ [60 * x % t] := by rw [take_snoc h]; simp [remL]
def weightsOK (w : List Int) : Prop := 1 ≤ w.length ∧ w.length ≤ 4 ∧ ∀ x ∈ w, 0 ≤ x ∧ x ≤ 1000000000
theorem weights_small {w : List Int} (h : weightsOK w) : smallL w := ⟨by have := h.2.1; omega, fun x hx => by have := h.2.2 x hx; omega⟩
theorem quo_small {w : List Int} (h : weightsOK w) (ht : 0 < w.sum) : smallL (quoL w.sum w) := by
  refine ⟨by have := h.2.1; simp [quoL]; omega, fun y hy => ?_⟩
  obtain ⟨x, hx, rfl⟩ := List.mem_map.1 hy
  have hb := h.2.2 x hx
  have h1 := Int.ediv_nonneg (a := 60 * x) (b := w.sum) (by omega) (by omega)
  have h2 : 60 * x / w.sum ≤ 60 * x := Int.ediv_le_self _ (by omega)
  omega
theorem HamI.small {w : List Int} {t : Int} {m : Nat} {p r : List Int} (h : HamI w t m p r) (ht : 0 < t) {i : Nat} (hi : i < w.length) (hw : 0 ≤ w.getD i 0 ∧ w.getD i 0 ≤ 1000000000) : 0 ≤ p.getD i 0 ∧ p.getD i 0 ≤ 100000000000 := by
  have key : -t < t * p.getD i 0 ∧ t * p.getD i 0 < 60 * w.getD i 0 + t := by
    rcases h.each i hi with h1 | h1 <;> omega
  refine ⟨?_, ?_⟩
  · have h1 : t * (-1) < t * p.getD i 0 := by omega
    have := Int.lt_of_mul_lt_mul_left h1 (by omega)
    omega
  · have h1 := Int.mul_le_mul_of_nonneg_right (show (1 : Int) ≤ t by omega) (show 0 ≤ 60 * w.getD i 0 by omega)
    have h2 : t * p.getD i 0 < t * (60 * w.getD i 0 + 1) := by rw [Int.mul_add, Int.mul_one]; omega
    have := Int.lt_of_mul_lt_mul_left h2 (by omega)
    omega
theorem spec_l22Parts1_ok (w : List Int) (hw : weightsOK w) (ht : 0 < w.sum) : Fun Try.prog 172 [] [.t (ints w)] fun o r => o = [] ∧ r = intsO (ham1 w) := by
  have hs := weights_small hw
  have hsum : w.sum ≤ 1000000000000000 := by have := smallL_sum hs w.length; rw [List.take_length] at this; omega
  obtain ⟨hw1, hw2, hw3⟩ := hw
  refine fun_spec_l22Parts (by simp) ?_
  simp -implicitDefEqProofs only [go_sem, evR, ints, rows, rat, rats, c_spec_l22Parts]
  refine CallW.pure (spec_l01Sum_ok w hs) [] rfl Try.call187 ?_ (by first | trivial | simp [T.noSh, T.noShL, rat]) rfl ?_
  · simp -implicitDefEqProofs only [agR, Nat.reduceLeDiff, Nat.reduceSub, vaR, go_sem, ints, rows, rat, rats, ratsO, rtR, intsO, rowsO]
  simp -implicitDefEqProofs only [go_sem, evR, ints, rows, rat, rats]
  refine ⟨fun h => absurd h (by simp; omega), fun _ => ?_⟩
  refine SemC.loopR (σ := Nat) (fun i => St.of [(0, .t (ints w)), (3, .t (.i w.sum)), (6, .own 95), (7, .own 96), (8, .t (.i i))] [(95, .arr 1 ((quoL w.sum (w.take i)).map T.i)), (96, .arr 1 ((remL w.sum (w.take i)).map T.i))]) (fun i => i ≤ w.length) (fun i => w.length - i) 0 (Weak.of _ _ [some 28, some 29] (by simp) (by simp) ?_ ?_) (by omega) fun i hi R hn hr he => ?_
  · simp -implicitDefEqProofs only [ints, rows, Nat.reduceBEq, wkR, Nat.reduceEqDiff, ↓reduceIte, wrR]
  · exact ⟨⟨_, rfl, .refl _⟩, rfl, ⟨_, rfl, .refl _⟩, rfl, trivial⟩
  · simp -implicitDefEqProofs only [go_sem, evR, ints, rows, rat, rats]
    refine ⟨fun h => ⟨by omega, by omega, by omega, fun x hx => ?_⟩, fun h => he _ _ ?_⟩
    · have hxb := hw3 x (List.mem_of_getElem? hx)
      have hq1 := Int.ediv_nonneg (a := 60 * x) (b := w.sum) (by omega) (by omega)
      have hq2 : 60 * x / w.sum ≤ 60 * x := Int.ediv_le_self _ (by omega)
      have hr1 := Int.emod_nonneg (60 * x) (show w.sum ≠ 0 by omega)
      have hr2 := Int.emod_lt_of_pos (60 * x) ht
      have e1 : IntKind.i64.wrap ((IntKind.i64.wrap (60 * x)).tdiv w.sum) = 60 * x / w.sum := by
        rw [wrap64 (n := 60 * x) (by omega) (by omega), Int.tdiv_eq_ediv_of_nonneg (by omega), wrap64 (by omega) (by omega)]
      have e2 : (IntKind.i64.wrap (60 * x)).tmod w.sum = 60 * x % w.sum := by
        rw [wrap64 (n := 60 * x) (by omega) (by omega), Int.tmod_eq_emod_of_nonneg (by omega)]
      simp only [e1]
      refine ⟨by omega, by rw [quoL, List.length_map, List.length_take]; omega, by omega, by omega, by omega, fun x' hx' => ?_⟩
      rw [hx] at hx'; cases hx'
      simp only [e2]
      refine ⟨by omega, by rw [remL, List.length_map, List.length_take]; omega, ?_⟩
      refine hn _ (i + 1) (Weak.of _ _ [some 45, some 55] (by simp) (by simp) ?_ ?_) (by omega) (by omega)
      · simp -implicitDefEqProofs only [ints, rows, Nat.reduceBEq, wkR, Nat.reduceEqDiff, ↓reduceIte, wrR, next64 (by omega : i < w.length) (by omega)]
      · refine ⟨⟨_, rfl, ?_⟩, rfl, ⟨_, rfl, ?_⟩, rfl, trivial⟩
        · rw [quoL_snoc hx, List.map_append]; exact .refl _
        · rw [remL_snoc hx, List.map_append]; exact .refl _
    · simp -implicitDefEqProofs only [go_sem, evR, ints, rows, rat, rats]
      rw [show i = w.length by omega, List.take_length]
      have hst := ham_start (fun x hx => (hw3 x hx).1) ht
      have hqs := quo_small ⟨hw1, hw2, hw3⟩ ht
      refine CallW.pure (spec_l01Sum_ok (quoL w.sum w) hqs) [95] rfl Try.call187 ?_ (by first | trivial | simp [T.noSh, T.noShL, rat]) rfl ?_
      · simp -implicitDefEqProofs only [agR, Nat.reduceLeDiff, Nat.reduceSub, vaR, go_sem, ints, rows, rat, rats, ratsO, rtR, intsO, rowsO]
      simp -implicitDefEqProofs only [go_sem, evR, ints, rows, rat, rats]
      have hsm := hst.sum
      have e60 : IntKind.i64.wrap (60 - (quoL w.sum w).sum) = (((60 - (quoL w.sum w).sum).toNat : Nat) : Int) := by
        have := smallL_sum hqs (quoL w.sum w).length
        rw [List.take_length] at this
        rw [wrap64 (by omega) (by omega)]; omega
      rw [e60]
      refine SemC.loopR (σ := Nat × List Int × List Int) (fun s => St.of [(6, .own 95), (7, .own 96), (9, .t (.i s.1))] [(95, .arr 1 (s.2.1.map T.i)), (96, .arr 1 (s.2.2.map T.i))]) (fun s => HamI w w.sum s.1 s.2.1 s.2.2 ∧ hamGo s.1 s.2.1 s.2.2 = ham1 w ∧ s.1 ≤ 60) (fun s => s.1) ((60 - (quoL w.sum w).sum).toNat, quoL w.sum w, remL w.sum w) (Weak.of _ _ [some 95, some 96] (by simp) (by simp) ?_ ?_) ⟨hst, rfl, by
        have := sum_nonneg' (w := quoL w.sum w) fun y hy => by
          obtain ⟨x, hx, rfl⟩ := List.mem_map.1 hy
          exact Int.ediv_nonneg (by have := hw3 x hx; omega) (by omega)
        simp only []; omega⟩ fun s hI R hn hr he => ?_
      · simp -implicitDefEqProofs only [ints, rows, Nat.reduceBEq, wkR, Nat.reduceEqDiff, ↓reduceIte, wrR]
      · exact ⟨⟨_, rfl, .refl _⟩, rfl, ⟨_, rfl, .refl _⟩, rfl, trivial⟩
      · obtain ⟨m, p, r⟩ := s
        obtain ⟨hH, hgo, hm60⟩ := hI
        (try simp only [] at hH hgo hm60)
        simp -implicitDefEqProofs only [go_sem, evR, ints, rows, rat, rats]
        have hlp := hH.lp
        have hlr := hH.lr
        refine ⟨fun h => ?_, fun h => he _ _ ?_⟩
        · obtain ⟨m', rfl⟩ : ∃ m', m = m' + 1 := ⟨m - 1, by omega⟩
          obtain ⟨hb1, hb2⟩ := hH.best ht
          have hnext := hH.step ht
          refine SemC.loopR (σ := Nat) (fun k => St.of [(6, .own 95), (7, .own 96), (9, .t (.i (m' + 1 : Nat))), (10, .t (.i (maxI r k : Nat))), (11, .t (.i k))] [(95, .arr 1 (p.map T.i)), (96, .arr 1 (r.map T.i))]) (fun k => 1 ≤ k ∧ k ≤ r.length) (fun k => r.length - k) 1 (Weak.of _ _ [some 95, some 96] (by simp) (by simp) ?_ ?_) ⟨by omega, by omega⟩ fun k hk R2 hn2 hr2 he2 => ?_
          · simp -implicitDefEqProofs only [ints, rows, Nat.reduceBEq, wkR, Nat.reduceEqDiff, ↓reduceIte, wrR, maxI_one]
          · exact ⟨⟨_, rfl, .refl _⟩, rfl, ⟨_, rfl, .refl _⟩, rfl, trivial⟩
          · simp -implicitDefEqProofs only [go_sem, evR, ints, rows, rat, rats]
            refine ⟨fun h => ?_, fun h => he2 _ _ ?_⟩
            · have hkl : k < r.length := by omega
              obtain ⟨x, hx⟩ : ∃ x, r[k]? = some x := ⟨_, List.getElem?_eq_getElem hkl⟩
              have hml := maxI_lt r k (by omega) (by omega)
              obtain ⟨y, hy⟩ : ∃ y, r[maxI r k]? = some y := ⟨_, List.getElem?_eq_getElem hml⟩
              have hms : maxI r (k + 1) = if y < x then k else maxI r k := by
                rw [maxI, List.getD_eq_getElem?_getD, List.getD_eq_getElem?_getD, hx, hy]; rfl
              refine ⟨by omega, by omega, by omega, fun x' hx' => ⟨by omega, by omega, by omega, fun y' hy' => ?_⟩⟩
              rw [hx] at hx'; cases hx'
              rw [hy] at hy'; cases hy'
              refine ⟨fun hc => ?_, fun hc => ?_⟩
              · rw [if_pos (by omega)] at hms
                refine hn2 _ (k + 1) (Weak.of _ _ [some 95, some 96] (by simp) (by simp) ?_ ?_) ⟨by omega, by omega⟩ (by omega)
                · simp -implicitDefEqProofs only [ints, rows, Nat.reduceBEq, wkR, Nat.reduceEqDiff, ↓reduceIte, wrR, next64 hkl (by omega), hms]
                · exact ⟨⟨_, rfl, .refl _⟩, rfl, ⟨_, rfl, .refl _⟩, rfl, trivial⟩
              · rw [if_neg (by omega)] at hms
                refine hn2 _ (k + 1) (Weak.of _ _ [some 95, some 96] (by simp) (by simp) ?_ ?_) ⟨by omega, by omega⟩ (by omega)
                · simp -implicitDefEqProofs only [ints, rows, Nat.reduceBEq, wkR, Nat.reduceEqDiff, ↓reduceIte, wrR, next64 hkl (by omega), hms]
                · exact ⟨⟨_, rfl, .refl _⟩, rfl, ⟨_, rfl, .refl _⟩, rfl, trivial⟩
            · simp -implicitDefEqProofs only [go_sem, evR, ints, rows, rat, rats]
              have hk' : k = r.length := by omega
              subst hk'
              have hsm := hH.small ht hb1 (hw3 _ (by rw [List.getD_eq_getElem?_getD, List.getElem?_eq_getElem hb1]; exact List.getElem_mem _))
              refine ⟨by omega, by omega, by omega, fun a ha => ?_⟩
              have hg : p.getD (maxI r r.length) 0 = a := by rw [List.getD_eq_getElem?_getD, ha]; rfl
              rw [hg] at hsm hnext
              rw [wrap64 (n := a + 1) (by omega) (by omega)]
              refine ⟨by omega, by omega, by omega, by omega, by omega, by omega, ?_⟩
              refine hn _ (m', p.set (maxI r r.length) (a + 1), r.set (maxI r r.length) (-1)) (Weak.of _ _ [some 95, some 96] (by simp) (by simp) ?_ ?_) ⟨hnext, by rw [← hgo, hamGo, hg], by simp only []; omega⟩ (by simp only []; omega)
              · have e : IntKind.i64.wrap (((m' + 1 : Nat) : Int) - 1) = (m' : Int) := by rw [wrap64 (by omega) (by omega)]; omega
                simp -implicitDefEqProofs only [ints, rows, Nat.reduceBEq, wkR, Nat.reduceEqDiff, ↓reduceIte, wrR, e]
              · refine ⟨⟨_, rfl, ?_⟩, rfl, ⟨_, rfl, ?_⟩, rfl, trivial⟩
                · rw [List.map_set]; exact .refl _
                · rw [List.map_set]; exact .refl _
        · simp -implicitDefEqProofs only [go_sem, evR, ints, rows, rat, rats]
          have hm0 : m = 0 := by omega
          subst hm0
          rw [← hgo, hamGo]; rfl
end Go.Ab

/- Contracts: parts of weights that are all 0; slices.Index. -/
set_option linter.unusedSimpArgs false
set_option linter.unusedVariables false
namespace Go.Ab
open Go.Proofs

theorem ones_ok {w : List Int} (h : weightsOK w) : weightsOK (onesL w) := ⟨by have := h.1; simpa [onesL] using this, by have := h.2.1; simpa [onesL] using this, fun x hx => by simp [onesL] at hx; omega⟩
theorem ones_snoc {w : List Int} {i : Nat} {x : Int} (h : w[i]? = some x) : onesL (w.take (i + 1)) = onesL (w.take i) ++ [1] := by rw [take_snoc h]; simp [onesL]
theorem spec_l22Parts_ok (w : List Int) (hw : weightsOK w) : Fun Try.prog 172 [] [.t (ints w)] fun o r => o = [] ∧ r = intsO (ham w) := by
  have hs := weights_small hw
  have hs0 := sum_nonneg' (w := w) fun x hx => (hw.2.2 x hx).1
  by_cases h0 : w.sum = 0
  · rw [ham, if_pos h0]
    have ho := spec_l22Parts1_ok (onesL w) (ones_ok hw) (by rw [ones_sum]; have := hw.1; omega)
    obtain ⟨hw1, hw2, hw3⟩ := hw
    refine fun_spec_l22Parts (by simp) ?_
    simp -implicitDefEqProofs only [go_sem, evR, ints, rows, rat, rats, c_spec_l22Parts]
    refine CallW.pure (spec_l01Sum_ok w hs) [] rfl Try.call187 ?_ (by first | trivial | simp [T.noSh, T.noShL, rat]) rfl ?_
    · simp -implicitDefEqProofs only [agR, Nat.reduceLeDiff, Nat.reduceSub, vaR, go_sem, ints, rows, rat, rats, ratsO, rtR, intsO, rowsO]
    simp -implicitDefEqProofs only [go_sem, evR, ints, rows, rat, rats]
    refine ⟨fun _ => ?_, fun h => absurd h (by simp [h0])⟩
    refine SemC.loopR (σ := Nat) (fun i => St.of [(0, .t (ints w)), (4, .own 95), (5, .t (.i i))] [(95, .arr 1 ((onesL (w.take i)).map T.i))]) (fun i => i ≤ w.length) (fun i => w.length - i) 0 (Weak.of _ _ [some 16] (by simp) (by simp) ?_ ?_) (by omega) fun i hi R hn hr he => ?_
    · simp -implicitDefEqProofs only [ints, rows, Nat.reduceBEq, wkR, Nat.reduceEqDiff, ↓reduceIte, wrR]
    · exact ⟨⟨_, rfl, .refl _⟩, rfl, trivial⟩
    · simp -implicitDefEqProofs only [go_sem, evR, ints, rows, rat, rats]
      refine ⟨fun h => ?_, fun h => he _ _ ?_⟩
      · obtain ⟨x, hx⟩ : ∃ x, w[i]? = some x := ⟨_, List.getElem?_eq_getElem (by omega)⟩
        refine ⟨by rw [onesL, List.length_map, List.length_take]; omega, hn _ (i + 1) (Weak.of _ _ [some 25] (by simp) (by simp) ?_ ?_) (by omega) (by omega)⟩
        · simp -implicitDefEqProofs only [ints, rows, Nat.reduceBEq, wkR, Nat.reduceEqDiff, ↓reduceIte, wrR, next64 (by omega : i < w.length) (by omega)]
        · refine ⟨⟨_, rfl, ?_⟩, rfl, trivial⟩
          rw [ones_snoc hx, List.map_append]; exact .refl _
      · simp -implicitDefEqProofs only [go_sem, evR, ints, rows, rat, rats]
        rw [show i = w.length by omega, List.take_length]
        refine CallW.res ho [95] rfl Try.call172 ?_ (.inr (intsO_noSh _)) ?_
        · simp -implicitDefEqProofs only [agR, Nat.reduceLeDiff, Nat.reduceSub, vaR, go_sem, ints, rows, rat, rats, ratsO, rtR, intsO, rowsO]
        simp -implicitDefEqProofs only [clR, Nat.reduceLeDiff, go_sem, evR, rat]
  · rw [ham, if_neg h0]
    exact spec_l22Parts1_ok w hw (by omega)
end Go.Ab

/- Contracts: drawn strategies. -/
set_option linter.unusedSimpArgs false
set_option linter.unusedVariables false
namespace Go.Ab
open Go.Proofs
def sizesL (g : Gm) (pl : Int) : List Int := (List.range (sets g pl).length).map fun i => (sizeAt g pl i : Int)
theorem sizesL_length (g : Gm) (pl : Int) : (sizesL g pl).length = (sets g pl).length := by simp [sizesL]
theorem sizesL_get {g : Gm} {pl : Int} {i : Nat} (h : i < (sets g pl).length) : (sizesL g pl)[i]? = some (sizeAt g pl i : Int) := by simp [sizesL, h]
theorem sizesL_take {g : Gm} {pl : Int} {i : Nat} (h : i < (sets g pl).length) : (sizesL g pl).take (i + 1) = (sizesL g pl).take i ++ [(sizeAt g pl i : Int)] := take_snoc (sizesL_get h)
section
attribute [-go_sem] load1C load1V fldC lenC idxC loadNV nilCheckW
set_option maxRecDepth 20000 in
theorem spec_l22Sizes_ok (g : Gm) (pl : Int) (hl : g.nd.length ≤ 60) (hk : g.w.length ≤ 6) : Fun Try.prog 196 [] [.t (.agg [.sh 5 (chunk nodeC g.nd), .sh 1 (g.w.map ints), .sh 1 (g.v.map ints)]), .t (.i pl)] fun o r => o = [] ∧ r = intsO (sizesL g pl) := by
  refine fun_spec_l22Sizes (by simp) ?_
  simp -implicitDefEqProofs only [go_sem, evR, ints, rows, rat, rats, c_spec_l22Sizes]
  have hsl := sets_len g pl hl hk
  have hp := l21Sets_t g pl hl hk
  simp only [rowsO] at hp
  refine CallW.res hp [] rfl Try.call186 ?_ (.inl rfl) ?_
  · simp -implicitDefEqProofs only [agR, Nat.reduceLeDiff, Nat.reduceSub, vaR, go_sem, ints, rows, rat, rats, ratsO, rtR, intsO, rowsO]
  simp -implicitDefEqProofs only [clR, Nat.reduceLeDiff, go_sem, evR, rat]
  refine SemC.loopR (σ := Nat) (fun i => St.of [(2, .own 2), (5, .t (rows (sets g pl))), (6, .own 96), (7, .t (.i i))] [(2, .box [.sh 5 (chunk nodeC g.nd), .sh 1 (g.w.map ints), .sh 1 (g.v.map ints)]), (96, intsO ((sizesL g pl).take i))]) (fun i => i ≤ (sets g pl).length) (fun i => (sets g pl).length - i) 0 (Weak.trans (Weak.share 10 rfl) (Weak.of _ _ [some 2, some 11] (by simp) (by simp) ?_ ?_)) (by simp) fun i hi R hn hr he => ?_
  · simp -implicitDefEqProofs only [ints, rows, Nat.reduceBEq, wkR, Nat.reduceEqDiff, ↓reduceIte, wrR, shareA, T.toSh, toShL_intsO]
  · exact ⟨⟨_, rfl, .refl _⟩, rfl, ⟨_, rfl, .refl _⟩, rfl, trivial⟩
  rcases Nat.lt_or_ge i (sets g pl).length with h9 | h9
  · obtain ⟨n, c, x, hs, hx, hn1, hc1, hxp, hsz⟩ := set_elem h9
    have hlt : ((sizesL g pl).take i).length = i := by rw [List.length_take, sizesL_length]; omega
    simp -implicitDefEqProofs only [go_sem, evR, ints, rows, rat, rats, intsO, decide_eq_true (show (i : Int) < ((sets g pl).length : Int) by omega), hs, nd_get4 hx, Option.map_some, Option.getD_some]
    refine ⟨by omega, by omega, by omega, by omega, by rw [nd_len]; omega, by rw [nd_len]; omega, by omega, hn _ (i + 1) (Weak.of _ _ [some 2, some 33] (by simp) (by simp) ?_ ?_) (by omega) (by omega)⟩
    · simp -implicitDefEqProofs only [ints, rows, Nat.reduceBEq, wkR, Nat.reduceEqDiff, ↓reduceIte, wrR, next64 h9 (by omega)]
    · refine ⟨⟨_, rfl, .refl _⟩, rfl, ⟨_, rfl, ?_⟩, rfl, trivial⟩
      rw [sizesL_take h9, hsz, intsO, List.map_append]; exact .refl _
  · simp -implicitDefEqProofs only [go_sem, evR, ints, rows, rat, rats, decide_eq_false (show ¬ (i : Int) < ((sets g pl).length : Int) by omega)]
    refine he _ _ ?_
    simp -implicitDefEqProofs only [go_sem, evR, ints, rows, rat, rats, intsO]
    rw [List.take_of_length_le (by rw [sizesL_length]; exact h9)]
theorem size_bound {g : Gm} (hg : isGameB g = true) {pl : Int} (hpl : pl = 0 ∨ pl = 1) {i : Nat} (h : i < (sets g pl).length) : 1 ≤ sizeAt g pl i ∧ sizeAt g pl i ≤ 4 := by
  obtain ⟨n, c, x, hs, hx, hn1, hc1, hxp, hsz⟩ := set_elem h
  obtain ⟨p1, p2, p3, p4, p5⟩ := isGameB_parts hg
  obtain ⟨t1, t2, t3, t4⟩ := isTreeB_spec p1
  obtain ⟨-, -, -, -, f1, f2⟩ := ndOK_fields (t2 _ _ hx)
  rw [hsz]
  exact ⟨(f1 (by omega)).2, f2⟩
theorem pick5 {cs : List Int} {a : Nat × Int} {x : Int} (hx : 0 ≤ x ∧ x < 9) : 0 ≤ (pickS cs a [0, 0, 1, 2, x]).1 ∧ (pickS cs a [0, 0, 1, 2, x]).1 ≤ 8 := by
  have h := pickS_mem (cs := cs) (a := a) (l := [0, 0, 1, 2, x]) (by simp)
  simp only [List.mem_cons, List.not_mem_nil, or_false] at h
  omega
set_option maxRecDepth 20000 in
theorem spec_l22Random_w (cs : List Int) (hc : bytesOK cs) (hl : cs.length ≤ 100000000000) (a : Nat × Int) (ha : seedOK a) (g : Gm) (hg : isGameB g = true) (pl : Int) (hpl : pl = 0 ∨ pl = 1) :
    Fun Try.prog 141 [.box [bytes cs, .i a.1, .i a.2]] [.own 1000000000, .t (.agg [.sh 5 (chunk nodeC g.nd), .sh 1 (g.w.map ints), .sh 1 (g.v.map ints)]), .t (.i pl)] fun o r => ∃ x : List (List Int) × (Nat × Int), o = [.box [bytes cs, .i x.2.1, .i x.2.2]] ∧ r = .agg [.i pl, .arr 1 (x.1.map intsO)] ∧ (x.1.length ≤ 360 ∧ (∀ r ∈ x.1, 1 ≤ r.length ∧ r.length ≤ 4) ∧ seedOK x.2) := by
  obtain ⟨p1, p2, p3, p4, p5⟩ := isGameB_parts hg
  obtain ⟨t1, t2, t3, t4⟩ := isTreeB_spec p1
  have hsl := sets_len g pl t1.2 p2.2
  refine fun_spec_l22Random (by simp) ?_
  simp -implicitDefEqProofs only [go_sem, evR, ints, rows, rat, rats, c_spec_l22Random]
  have hp := spec_l22Sizes_ok g pl t1.2 p2.2
  simp only [intsO] at hp
  refine CallW.res hp [] rfl Try.call196 ?_ (.inl rfl) ?_
  · simp -implicitDefEqProofs only [agR, Nat.reduceLeDiff, Nat.reduceSub, vaR, go_sem, ints, rows, rat, rats, ratsO, rtR, intsO, rowsO]
  simp -implicitDefEqProofs only [clR, Nat.reduceLeDiff, go_sem, evR, rat]
  refine SemC.loopR (σ := List (List Int) × (Nat × Int)) (fun s => St.of [(0, .own 1000000000), (2, .t (.i pl)), (6, .own 6), (7, .t (ints (sizesL g pl))), (8, .own 96), (9, .t (.i s.1.length))] [(1000000000, .box [bytes cs, .i s.2.1, .i s.2.2]), (6, .box [.i 0, .v (.slice none 0 0)]), (96, rowsO s.1)]) (fun s => seedOK s.2 ∧ s.1.length ≤ (sets g pl).length ∧ ∀ r ∈ s.1, 1 ≤ r.length ∧ r.length ≤ 4) (fun s => (sets g pl).length - s.1.length) ([], a) (Weak.trans (Weak.share 14 rfl) (Weak.of _ _ [some 1000000000, some 6, some 15] (by simp) (by simp) ?_ ?_)) ⟨ha, by simp, by simp⟩ fun s hI R hn hr he => ?_
  · simp -implicitDefEqProofs only [ints, rows, Nat.reduceBEq, wkR, Nat.reduceEqDiff, ↓reduceIte, wrR, shareA, T.toSh, toShL_ints, List.length_nil]
  · exact ⟨⟨_, rfl, .refl _⟩, rfl, ⟨_, rfl, .refl _⟩, rfl, ⟨_, rfl, .refl _⟩, rfl, trivial⟩
  obtain ⟨m, b⟩ := s
  obtain ⟨i1, i2, i3⟩ := hI
  (try simp only [] at i1 i2 i3)
  rcases Nat.lt_or_ge m.length (sets g pl).length with h9 | h9
  · obtain ⟨b1, b2⟩ := size_bound hg hpl h9
    simp -implicitDefEqProofs only [go_sem, evR, ints, rows, rat, rats, rowsO, sizesL_length, decide_eq_true (show (m.length : Int) < ((sets g pl).length : Int) by omega)]
    refine SemC.loopR (σ := List Int × (Nat × Int)) (fun s => St.of [(0, .own 1000000000), (2, .t (.i pl)), (6, .own 6), (7, .t (ints (sizesL g pl))), (8, .own 96), (9, .t (.i m.length)), (10, .own 97), (11, .t (.i s.1.length))] [(1000000000, .box [bytes cs, .i s.2.1, .i s.2.2]), (6, .box [.i 0, .v (.slice none 0 0)]), (96, rowsO m), (97, intsO s.1)]) (fun s => seedOK s.2 ∧ s.1.length ≤ sizeAt g pl m.length ∧ ∀ x ∈ s.1, 0 ≤ x ∧ x ≤ 8) (fun s => sizeAt g pl m.length - s.1.length) ([], b) (Weak.of _ _ [some 1000000000, some 6, some 96, some 22] (by simp) (by simp) ?_ ?_) ⟨i1, by simp, by simp⟩ fun s hI R2 hn2 hr2 he2 => ?_
    · simp -implicitDefEqProofs only [ints, rows, Nat.reduceBEq, wkR, Nat.reduceEqDiff, ↓reduceIte, wrR, List.length_nil]
    · exact ⟨⟨_, rfl, .refl _⟩, rfl, ⟨_, rfl, .refl _⟩, rfl, ⟨_, rfl, .refl _⟩, rfl, ⟨_, rfl, .refl _⟩, rfl, trivial⟩
    obtain ⟨w, c⟩ := s
    obtain ⟨j1, j2, j3⟩ := hI
    (try simp only [] at j1 j2 j3)
    rcases Nat.lt_or_ge w.length (sizeAt g pl m.length) with h8 | h8
    · simp -implicitDefEqProofs only [go_sem, evR, ints, rows, rat, rats, rowsO, intsO, sizesL_length, sizesL_get h9, decide_eq_true (show (w.length : Int) < (sizeAt g pl m.length : Int) by omega)]
      refine ⟨by omega, by omega, by omega, ?_⟩
      refine CallW.ref (next_box cs hc hl c j1 9 (by omega)) [1000000000] [] rfl Try.call126 (by simp) ?_ (by simp) ?_ (.inl rfl) ?_
      · simp -implicitDefEqProofs only [srR, Nat.reduceEqDiff, ↓reduceIte, ints, rows, intsO, rowsO]
      · simp -implicitDefEqProofs only [agR, Nat.reduceLeDiff, Nat.reduceSub, vaR, go_sem, ints, rows, rat, rats, ratsO, rtR, intsO, rowsO]
      simp -implicitDefEqProofs only [clR, Nat.reduceLeDiff, go_sem, evR, rat]
      have hs5 := nextS_seed (cs := cs) hl j1 9
      have hb5 := nextS_bound (cs := cs) (a := c) (n := 9) (by omega)
      generalize nextS cs c 9 = z at hs5 hb5 ⊢
      obtain ⟨y, d⟩ := z
      simp only [] at hs5 hb5 ⊢
      have hq := pick_own cs hc hl d hs5 [0, 0, 1, 2, y] (by simp) (by simp)
      simp only [intsO, List.map_cons, List.map_nil] at hq
      refine CallW.ref hq [1000000000, 35] [] rfl Try.call147 (by simp) ?_ (by simp) ?_ (.inl rfl) ?_
      · simp -implicitDefEqProofs only [srR, Nat.reduceEqDiff, ↓reduceIte, ints, rows, intsO, rowsO]
      · simp -implicitDefEqProofs only [agR, Nat.reduceLeDiff, Nat.reduceSub, vaR, go_sem, ints, rows, rat, rats, ratsO, rtR, intsO, rowsO]
      simp -implicitDefEqProofs only [clR, Nat.reduceLeDiff, go_sem, evR, rat]
      have hs6 := pickS_seed (cs := cs) hl hs5 [0, 0, 1, 2, y]
      have hb6 := pick5 (cs := cs) (a := d) hb5
      generalize pickS cs d [0, 0, 1, 2, y] = z at hs6 hb6 ⊢
      obtain ⟨v, f⟩ := z
      simp only [] at hs6 hb6 ⊢
      refine ⟨by omega, hn2 _ (w ++ [v], f) (Weak.of _ _ [some 1000000000, some 6, some 96, some 38] (by simp) (by simp) ?_ ?_) ⟨hs6, by simp; omega, fun x hx => ?_⟩ (by simp only [List.length_append, List.length_cons, List.length_nil]; omega)⟩
      · simp -implicitDefEqProofs only [ints, rows, Nat.reduceBEq, wkR, Nat.reduceEqDiff, ↓reduceIte, wrR, next64 h8 (by omega), List.length_append, List.length_cons, List.length_nil]
      · refine ⟨⟨_, rfl, .refl _⟩, rfl, ⟨_, rfl, .refl _⟩, rfl, ⟨_, rfl, .refl _⟩, rfl, ⟨_, rfl, ?_⟩, rfl, trivial⟩
        simp only [intsO, List.map_append, List.map_cons, List.map_nil]; exact .refl _
      · rcases List.mem_append.1 hx with hx | hx
        · exact j3 x hx
        · simp at hx; rw [hx]; exact hb6
    · simp -implicitDefEqProofs only [go_sem, evR, ints, rows, rat, rats, rowsO, intsO, sizesL_length, sizesL_get h9, decide_eq_false (show ¬ (w.length : Int) < (sizeAt g pl m.length : Int) by omega)]
      refine ⟨by omega, by omega, by omega, he2 _ _ ?_⟩
      simp -implicitDefEqProofs only [go_sem, evR, ints, rows, rat, rats, rowsO, intsO]
      have hwo : weightsOK w := ⟨by omega, by omega, fun x hx => by have := j3 x hx; omega⟩
      have hq := spec_l22Parts_ok w hwo
      simp only [ints, intsO] at hq
      refine CallW.res hq [97] rfl Try.call172 ?_ (.inr (intsO_noSh _)) ?_
      · simp -implicitDefEqProofs only [agR, Nat.reduceLeDiff, Nat.reduceSub, vaR, go_sem, ints, rows, rat, rats, ratsO, rtR, intsO, rowsO]
      simp -implicitDefEqProofs only [clR, Nat.reduceLeDiff, go_sem, evR, rat]
      have hhl := (ham_spec (fun x hx => (j3 x hx).1) (show 1 ≤ w.length by omega)).1
      refine ⟨by omega, hn _ (m ++ [ham w], c) (Weak.of _ _ [some 1000000000, some 6, some 43] (by simp) (by simp) ?_ ?_) ⟨j1, by simp; omega, fun r hr' => ?_⟩ (by simp only [List.length_append, List.length_cons, List.length_nil]; omega)⟩
      · simp -implicitDefEqProofs only [ints, rows, Nat.reduceBEq, wkR, Nat.reduceEqDiff, ↓reduceIte, wrR, next64 h9 (by omega), List.length_append, List.length_cons, List.length_nil]
      · refine ⟨⟨_, rfl, .refl _⟩, rfl, ⟨_, rfl, .refl _⟩, rfl, ⟨_, rfl, ?_⟩, rfl, trivial⟩
        simp only [rowsO, intsO, List.map_append, List.map_cons, List.map_nil]; exact .refl _
      · rcases List.mem_append.1 hr' with hr' | hr'
        · exact i3 r hr'
        · simp at hr'; rw [hr', hhl]; omega
  · simp -implicitDefEqProofs only [go_sem, evR, ints, rows, rat, rats, rowsO, sizesL_length, decide_eq_false (show ¬ (m.length : Int) < ((sets g pl).length : Int) by omega)]
    refine he _ _ ?_
    simp -implicitDefEqProofs only [go_sem, evR, ints, rows, rat, rats, rowsO]
    exact ⟨(m, b), rfl, rfl, by show m.length ≤ 360; omega, i3, i1⟩
end
end Go.Ab
