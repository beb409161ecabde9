/- Contracts: uniform strategies; drawn games with strategies. -/
import Derived.Test.YtkmmkgpnlmdcfaaQ5
set_option linter.unusedSimpArgs false
set_option linter.unusedVariables false
namespace Go.Ab
open Go.Proofs
def uniL (g : Gm) (pl : Int) : List (List Int) := (List.range (sets g pl).length).map fun i => ham (List.replicate (sizeAt g pl i) 0)
theorem uniL_length (g : Gm) (pl : Int) : (uniL g pl).length = (sets g pl).length := by simp [uniL]
theorem uniL_take {g : Gm} {pl : Int} {i : Nat} (h : i < (sets g pl).length) : (uniL g pl).take (i + 1) = (uniL g pl).take i ++ [ham (List.replicate (sizeAt g pl i) 0)] := take_snoc (by simp [uniL, h])
theorem weights0 {n : Nat} (h1 : 1 ≤ n) (h4 : n ≤ 4) : weightsOK (List.replicate n 0) := ⟨by simpa using h1, by simpa using h4, fun x hx => by rw [List.eq_of_mem_replicate hx]; omega⟩
theorem toShL_rowsU (m : List (List Int)) : T.toShL (m.map intsO ++ [.arr 1 [.i 60]]) = (m ++ [[60]]).map ints := by
  rw [show m.map intsO ++ [T.arr 1 [.i 60]] = (m ++ [[60]]).map intsO by rw [List.map_append]; rfl, toShL_intsO]
theorem two_usesU {A C : Prop} (t : C) (h : C → A) : A := h t
def smallS (m : List (List Int)) : Prop := m.length ≤ 400 ∧ ∀ r ∈ m, r.length ≤ 4
theorem uniL_small {g : Gm} (hg : isGameB g = true) {pl : Int} (hpl : pl = 0 ∨ pl = 1) : smallS (uniL g pl) := by
  obtain ⟨p1, p2, p3, p4, p5⟩ := isGameB_parts hg
  obtain ⟨t1, t2, t3, t4⟩ := isTreeB_spec p1
  have hsl := sets_len g pl t1.2 p2.2
  refine ⟨by rw [uniL_length]; omega, fun r hr => ?_⟩
  obtain ⟨i, hi, rfl⟩ := List.mem_map.1 hr
  obtain ⟨b1, b2⟩ := size_bound hg hpl (List.mem_range.1 hi)
  rw [(ham_spec (w := List.replicate (sizeAt g pl i) 0) (fun x hx => by rw [List.eq_of_mem_replicate hx]; omega) (by simpa using b1)).1]
  simpa using b2
theorem smallG_L {g : Gm} (h : smallG g) : gameL g := by
  obtain ⟨⟨h1, h2⟩, h3, h4, h5, h6⟩ := h
  exact ⟨by omega, fun x hx => by have := h2 x hx; omega, ⟨by omega, fun r hr => by have := h4 r hr; omega⟩, by omega, fun r hr => by have := h6 r hr; omega⟩
section
attribute [-go_sem] load1C load1V fldC lenC idxC loadNV nilCheckW
set_option maxRecDepth 20000 in
theorem spec_l22Uniform_ok (g : Gm) (hg : isGameB g = true) (pl : Int) (hpl : pl = 0 ∨ pl = 1) : Fun Try.prog 178 [] [.t (.agg [.sh 5 (chunk nodeC g.nd), .sh 1 (g.w.map ints), .sh 1 (g.v.map ints)]), .t (.i pl)] fun o r => o = [] ∧ r = .agg [.i pl, .arr 1 ((uniL g pl).map intsO)] := by
  obtain ⟨p1, p2, p3, p4, p5⟩ := isGameB_parts hg
  obtain ⟨t1, t2, t3, t4⟩ := isTreeB_spec p1
  have hsl := sets_len g pl t1.2 p2.2
  refine fun_spec_l22Uniform (by simp) ?_
  simp -implicitDefEqProofs only [go_sem, evR, ints, rows, rat, rats, c_spec_l22Uniform]
  have hp := spec_l22Sizes_ok g pl t1.2 p2.2
  simp only [intsO] at hp
  refine CallW.res hp [] rfl Try.call196 ?_ (.inl rfl) ?_
  · simp -implicitDefEqProofs only [agR, Nat.reduceLeDiff, Nat.reduceSub, vaR, go_sem, ints, rows, rat, rats, ratsO, rtR, intsO, rowsO]
  simp -implicitDefEqProofs only [clR, Nat.reduceLeDiff, go_sem, evR, rat]
  refine SemC.loopR (σ := Nat) (fun i => St.of [(1, .t (.i pl)), (4, .own 4), (5, .t (ints (sizesL g pl))), (6, .own 96), (7, .t (.i i))] [(4, .box [.i 0, .v (.slice none 0 0)]), (96, rowsO ((uniL g pl).take i))]) (fun i => i ≤ (sets g pl).length) (fun i => (sets g pl).length - i) 0 (Weak.trans (Weak.share 10 rfl) (Weak.of _ _ [some 4, some 11] (by simp) (by simp) ?_ ?_)) (by simp) fun i hi R hn hr he => ?_
  · simp -implicitDefEqProofs only [ints, rows, Nat.reduceBEq, wkR, Nat.reduceEqDiff, ↓reduceIte, wrR, shareA, T.toSh, toShL_ints]
  · exact ⟨⟨_, rfl, .refl _⟩, rfl, ⟨_, rfl, .refl _⟩, rfl, trivial⟩
  rcases Nat.lt_or_ge i (sets g pl).length with h9 | h9
  · obtain ⟨b1, b2⟩ := size_bound hg hpl h9
    have hlt : ((uniL g pl).take i).length = i := by rw [List.length_take, uniL_length]; omega
    simp -implicitDefEqProofs only [go_sem, evR, ints, rows, rat, rats, rowsO, sizesL_length, sizesL_get h9, decide_eq_true (show (i : Int) < ((sets g pl).length : Int) by omega), made_one]
    refine ⟨by omega, by omega, by omega, by omega, by omega, ?_⟩
    rw [show List.replicate (sizeAt g pl i) (T.v (.int .i64 0)) = (List.replicate (sizeAt g pl i) 0).map T.i by rw [List.map_replicate]]
    have hq := spec_l22Parts_ok _ (weights0 b1 b2)
    simp only [ints, intsO] at hq
    refine CallW.res hq [23] rfl Try.call172 ?_ (.inr (intsO_noSh _)) ?_
    · simp -implicitDefEqProofs only [agR, Nat.reduceLeDiff, Nat.reduceSub, vaR, go_sem, ints, rows, rat, rats, ratsO, rtR, intsO, rowsO]
    simp -implicitDefEqProofs only [clR, Nat.reduceLeDiff, go_sem, evR, rat]
    refine ⟨by omega, hn _ (i + 1) (Weak.of _ _ [some 4, some 26] (by simp) (by simp) ?_ ?_) (by omega) (by omega)⟩
    · simp -implicitDefEqProofs only [ints, rows, Nat.reduceBEq, wkR, Nat.reduceEqDiff, ↓reduceIte, wrR, next64 h9 (by omega)]
    · refine ⟨⟨_, rfl, .refl _⟩, rfl, ⟨_, rfl, ?_⟩, rfl, trivial⟩
      rw [uniL_take h9, rowsO, List.map_append]; exact .refl _
  · simp -implicitDefEqProofs only [go_sem, evR, ints, rows, rat, rats, sizesL_length, decide_eq_false (show ¬ (i : Int) < ((sets g pl).length : Int) by omega)]
    refine he _ _ ?_
    simp -implicitDefEqProofs only [go_sem, evR, ints, rows, rat, rats, rowsO]
    rw [List.take_of_length_le (by rw [uniL_length]; exact h9)]
def dr2T (x : Gm × (Int × List (List Int))) : T := .tup [.agg [.sh 5 (chunk nodeC x.1.nd), .sh 1 (x.1.w.map ints), .sh 1 (x.1.v.map ints)], .agg [.i x.2.1, .sh 1 (x.2.2.map ints)]]
set_option maxRecDepth 20000 in
theorem spec_l22Draw_w (cs : List Int) (hc : bytesOK cs) (hl : cs.length ≤ 100000000000) (a : Nat × Int) (ha : seedOK a) (pl : Int) (hpl : pl = 0 ∨ pl = 1) : Fun Try.prog 133 [.box [bytes cs, .i a.1, .i a.2]] [.own 1000000000, .t (.i pl)] fun o r => ∃ x : (Gm × (Int × List (List Int))) × (Nat × Int), o = [.box [bytes cs, .i x.2.1, .i x.2.2]] ∧ r = dr2T x.1 ∧ (smallG x.1.1 ∧ smallS x.1.2.2 ∧ seedOK x.2) := by
  refine Fun.le (Q := fun o r => ∃ x : (Gm × (Int × List (List Int))) × (Nat × Int), o = [.box [bytes cs, .i x.2.1, .i x.2.2]] ∧ (r = dr2T x.1 ∨ x.1.2.2 = [] ∧ r = .tup [.agg [.sh 5 (chunk nodeC x.1.1.nd), .sh 1 (x.1.1.w.map ints), .sh 1 (x.1.1.v.map ints)], .agg [.i x.1.2.1, .v (.slice none 0 0)]]) ∧ (smallG x.1.1 ∧ smallS x.1.2.2 ∧ seedOK x.2)) ?_ ?_
  rotate_left
  · rintro o r ⟨x, rfl, rfl | ⟨e, rfl⟩, hx⟩
    · exact ⟨_, .refl _, x, rfl, rfl, hx⟩
    · refine ⟨dr2T x.1, ?_, x, rfl, rfl, hx⟩
      rw [dr2T, e]
      refine .tup rfl fun i h h' => ?_
      match i, h with
      | 0, _ => exact .refl _
      | 1, _ =>
        refine .agg rfl fun j g g' => ?_
        match j, g with
        | 0, _ => exact .refl _
        | 1, _ => exact .nilSh 1
  refine fun_spec_l22Draw_h (by simp) ?_
  simp -implicitDefEqProofs only [go_sem, evR, ints, rows, rat, rats, c_spec_l22Draw_h]
  have hp := spec_l21Draw_w cs hc hl a ha
  simp only [drawnG] at hp
  refine CallW.exi hp [1000000000] [] rfl Try.call190 (by simp) ?_ (by simp) ?_ (.inl rfl) (fun x hx => ?_)
  · simp -implicitDefEqProofs only [srR, Nat.reduceEqDiff, ↓reduceIte, ints, rows, intsO, rowsO]
  · simp -implicitDefEqProofs only [agR, Nat.reduceLeDiff, Nat.reduceSub, vaR, go_sem, ints, rows, rat, rats, ratsO, rtR, intsO, rowsO]
  obtain ⟨⟨g, bb⟩, d⟩ := x
  obtain ⟨hx1, hx2⟩ := hx
  simp only [] at hx1 hx2 ⊢
  apply two_usesU
  rotate_left
  · intro tail
    cases bb
    · simp only [Bool.false_eq_true, if_false, rows, nodes]
      simp -implicitDefEqProofs only [clR, Nat.reduceLeDiff, go_sem, evR, rat, opR, Nat.reduceBEq]
      refine ⟨St.of [(0, .own 1000000000), (1, .t (.i pl)), (4, .own 4), (5, .own 5), (6, .t (.pin [nodes g.nd, rows g.w, rows g.v] 0))] [(1000000000, .box [bytes cs, .i d.1, .i d.2]), (4, .box [.v (.slice none 0 0), .v (.slice none 0 0), .v (.slice none 0 0)]), (5, .box [.i 0, .v (.slice none 0 0)])], Weak.trans (Weak.share 6 rfl) (Weak.of _ _ [some 1000000000, some 4, some 5] (by simp) (by simp) ?_ ?_), tail⟩
      · simp -implicitDefEqProofs only [ints, rows, Nat.reduceBEq, wkR, Nat.reduceEqDiff, ↓reduceIte, wrR, shareA, T.toSh, T.toShL, nodes, toShL_chunkC]
      · exact ⟨⟨_, rfl, .refl _⟩, rfl, ⟨_, rfl, .refl _⟩, rfl, ⟨_, rfl, .refl _⟩, rfl, trivial⟩
    · simp only [if_true, rows, nodes]
      simp -implicitDefEqProofs only [clR, Nat.reduceLeDiff, go_sem, evR, rat, opR, Nat.reduceBEq]
      refine ⟨St.of [(0, .own 1000000000), (1, .t (.i pl)), (4, .own 4), (5, .own 5), (6, .t (.pin [nodes g.nd, rows g.w, rows g.v] 0))] [(1000000000, .box [bytes cs, .i d.1, .i d.2]), (4, .box [.v (.slice none 0 0), .v (.slice none 0 0), .v (.slice none 0 0)]), (5, .box [.i 0, .v (.slice none 0 0)])], Weak.trans (Weak.share 6 rfl) (Weak.of _ _ [some 1000000000, some 4, some 5] (by simp) (by simp) ?_ ?_), tail⟩
      · simp -implicitDefEqProofs only [ints, rows, Nat.reduceBEq, wkR, Nat.reduceEqDiff, ↓reduceIte, wrR, shareA, T.toSh, T.toShL, nodes, toShL_chunkC]
      · exact ⟨⟨_, rfl, .refl _⟩, rfl, ⟨_, rfl, .refl _⟩, rfl, ⟨_, rfl, .refl _⟩, rfl, trivial⟩
  · simp -implicitDefEqProofs only [go_sem, evR, ints, rows, rat, rats, nodes]
    have hgl : gameL g := smallG_L hx1
    refine CallW.pure (isGame_t (spec_IsGame_ok g hgl)) [] rfl Try.call139 ?_ (by first | trivial | simp [T.noSh, T.noShL, rat]) rfl ?_
    · simp -implicitDefEqProofs only [agR, Nat.reduceLeDiff, Nat.reduceSub, vaR, go_sem, ints, rows, rat, rats, ratsO, rtR, intsO, rowsO]
    simp -implicitDefEqProofs only [go_sem, evR, ints, rows, rat, rats]
    cases hgb : isGameB g with
    | false => exact ⟨fun _ => ⟨((g, (pl, [])), d), rfl, .inr ⟨rfl, rfl⟩, hx1, ⟨by simp, by simp⟩, hx2⟩, fun h => absurd h (by decide)⟩
    | true =>
      refine ⟨fun h => absurd h (by decide), fun _ => ?_⟩
      have hr := spec_l22Random_w cs hc hl d hx2 g hgb pl hpl
      refine CallW.exi hr [1000000000] [] rfl Try.call141 (by simp) ?_ (by simp) ?_ (.inl rfl) (fun y hy => ?_)
      · simp -implicitDefEqProofs only [srR, Nat.reduceEqDiff, ↓reduceIte, ints, rows, intsO, rowsO]
      · simp -implicitDefEqProofs only [agR, Nat.reduceLeDiff, Nat.reduceSub, vaR, go_sem, ints, rows, rat, rats, ratsO, rtR, intsO, rowsO]
      obtain ⟨m, e⟩ := y
      obtain ⟨hy1, hy2, hy3⟩ := hy
      (try simp only [] at hy1 hy2 hy3)
      (try simp only [])
      simp -implicitDefEqProofs only [clR, Nat.reduceLeDiff, go_sem, evR, rat]
      refine CallW.ref (next_box cs hc hl e hy3 20 (by omega)) [1000000000] [] rfl Try.call126 (by simp) ?_ (by simp) ?_ (.inl rfl) ?_
      · simp -implicitDefEqProofs only [srR, Nat.reduceEqDiff, ↓reduceIte, ints, rows, intsO, rowsO]
      · simp -implicitDefEqProofs only [agR, Nat.reduceLeDiff, Nat.reduceSub, vaR, go_sem, ints, rows, rat, rats, ratsO, rtR, intsO, rowsO]
      simp -implicitDefEqProofs only [clR, Nat.reduceLeDiff, go_sem, evR, rat]
      have hs1 := nextS_seed (cs := cs) hl hy3 20
      have hb1 := nextS_bound (cs := cs) (a := e) (n := 20) (by omega)
      generalize nextS cs e 20 = z at hs1 hb1 ⊢
      obtain ⟨k, f⟩ := z
      simp only [] at hs1 hb1 ⊢
      refine ⟨fun hk => ?_, fun hk => ⟨fun hk1 => ?_, fun hk1 => ⟨fun hk2 => ?_, fun hk2 => ?_⟩⟩⟩
      · refine ⟨fun hm => ?_, fun hm => ?_⟩
        · obtain ⟨r0, hr0⟩ : ∃ r0, m[0]? = some r0 := ⟨_, List.getElem?_eq_getElem (by omega)⟩
          refine ⟨_, Weak.open 25 0 505 (l := m.map intsO) (lk := []) (c := intsO r0) rfl (by rw [List.getElem?_map, hr0]; rfl) rfl (by decide) rfl, ?_⟩
          have hr0m := hy2 r0 (List.mem_of_getElem? hr0)
          obtain ⟨y0, hy0⟩ : ∃ y, r0[0]? = some y := ⟨_, List.getElem?_eq_getElem (by omega)⟩
          simp -implicitDefEqProofs only [go_sem, evR, ints, rows, rat, rats, List.lookup_cons, beq_self_eq_true, intsO, List.length_set, hy0]
          have hp1 := pick_own cs hc hl f hs1 [-1, 1, 60] (by simp) (by simp)
          simp only [intsO, List.map_cons, List.map_nil] at hp1
          refine ⟨by omega, by omega, by omega, by omega, by omega, by omega, ?_⟩
          refine CallH.ref hp1 [1000000000, 39] [] rfl Try.call147 (by simp) ?_ (by simp) (fun e R' hR => ?_) (.inl rfl) ?_
          · simp -implicitDefEqProofs only [srR, Nat.reduceEqDiff, ↓reduceIte, ints, rows, intsO, rowsO]
          · simp -implicitDefEqProofs only [agR, Nat.reduceLeDiff, Nat.reduceSub, vaR, go_sem, ints, rows, rat, rats, ratsO, rtR, intsO, rowsO]
          simp -implicitDefEqProofs only [clR, Nat.reduceLeDiff, go_sem, evR, rat]
          have hs2 := pickS_seed (cs := cs) hl hs1 [-1, 1, 60]
          generalize pickS cs f [-1, 1, 60] = z at hs2 ⊢
          obtain ⟨v, f2⟩ := z
          (try simp only [] at hs2)
          (try simp only [])
          have hany : ((m.map intsO).set 0 T.any)[0]? = some .any := by rw [List.getElem?_set_self (by rw [List.length_map]; omega)]
          have hrow : ((m.map intsO).set 0 T.any).set 0 (.arr 1 ((r0.map T.i).set 0 (.i (IntKind.i64.wrap (y0 + v))))) = (m.set 0 (r0.set 0 (IntKind.i64.wrap (y0 + v)))).map intsO := by
            rw [List.set_set, List.map_set, intsO, List.map_set]
          refine ⟨?_, ((frameOK.refl _ _ _).upd _ (.inl (by simp))).upd _ (.inl (by simp))⟩
          refine ⟨by omega, by omega, _, Weak.trans (Weak.close1 25 0 505 rfl rfl (by decide) hany) (Weak.trans (Weak.close1 7 1 25 rfl rfl (by decide) rfl) (Weak.trans (Weak.share 7 rfl) (Weak.of [(0, .own 1000000000), (1, .t (.i pl)), (4, .own 4), (5, .own 5), (6, .t (.pin [nodes g.nd, rows g.w, rows g.v] 0)), (7, .t (.pin [.i pl, rows (m.set 0 (r0.set 0 (IntKind.i64.wrap (y0 + v))))] 0))] [(1000000000, .box [bytes cs, .i f2.1, .i f2.2]), (4, .box [.v (.slice none 0 0), .v (.slice none 0 0), .v (.slice none 0 0)]), (5, .box [.i 0, .v (.slice none 0 0)])] [some 1000000000, some 4, some 5] (by simp) (by simp) ?_ ?_))), ?_⟩
          · simp -implicitDefEqProofs only [ints, rows, Nat.reduceBEq, wkR, Nat.reduceEqDiff, ↓reduceIte, wrR, shareA, T.toSh, T.toShL, nodes, toShL_intsO, List.set_cons_succ, List.set_cons_zero, hrow]
          · exact ⟨⟨_, rfl, .refl _⟩, rfl, ⟨_, rfl, .refl _⟩, rfl, ⟨_, rfl, .refl _⟩, rfl, trivial⟩
          simp -implicitDefEqProofs only [go_sem, evR, ints, rows, rat, rats, nodes]
          exact ⟨⟨((g, (pl, m.set 0 (r0.set 0 (IntKind.i64.wrap (y0 + v))))), f2), rfl, .inl rfl, hx1, ⟨by show (m.set 0 _).length ≤ 400; rw [List.length_set]; omega, fun r hr => by rcases List.mem_or_eq_of_mem_set hr with h | h; exact (hy2 r h).2; rw [h, List.length_set]; omega⟩, hs2⟩, (frameOK.refl _ _ _).upd _ (.inl (by simp))⟩
        · refine ⟨_, Weak.trans (Weak.close1 7 1 25 rfl rfl (by decide) rfl) (Weak.trans (Weak.share 7 rfl) (Weak.of [(0, .own 1000000000), (1, .t (.i pl)), (4, .own 4), (5, .own 5), (6, .t (.pin [nodes g.nd, rows g.w, rows g.v] 0)), (7, .t (.pin [.i pl, rows m] 0))] [(1000000000, .box [bytes cs, .i f.1, .i f.2]), (4, .box [.v (.slice none 0 0), .v (.slice none 0 0), .v (.slice none 0 0)]), (5, .box [.i 0, .v (.slice none 0 0)])] [some 1000000000, some 4, some 5] (by simp) (by simp) ?_ ?_)), ?_⟩
          · simp -implicitDefEqProofs only [ints, rows, Nat.reduceBEq, wkR, Nat.reduceEqDiff, ↓reduceIte, wrR, shareA, T.toSh, T.toShL, nodes, toShL_intsO, List.set_cons_succ, List.set_cons_zero]
          · exact ⟨⟨_, rfl, .refl _⟩, rfl, ⟨_, rfl, .refl _⟩, rfl, ⟨_, rfl, .refl _⟩, rfl, trivial⟩
          simp -implicitDefEqProofs only [go_sem, evR, ints, rows, rat, rats, nodes]
          exact ⟨⟨((g, (pl, m)), f), rfl, .inl rfl, hx1, ⟨by show m.length ≤ 400; omega, fun r hr => (hy2 r hr).2⟩, hs1⟩, (frameOK.refl _ _ _).upd _ (.inl (by simp))⟩
      · have hp1 := pick_own cs hc hl f hs1 [-1, IntKind.i64.wrap (1 - pl), 2] (by simp) (by simp)
        simp only [intsO, List.map_cons, List.map_nil] at hp1
        refine CallW.ref hp1 [1000000000, 48] [] rfl Try.call147 (by simp) ?_ (by simp) ?_ (.inl rfl) ?_
        · simp -implicitDefEqProofs only [srR, Nat.reduceEqDiff, ↓reduceIte, ints, rows, intsO, rowsO]
        · simp -implicitDefEqProofs only [agR, Nat.reduceLeDiff, Nat.reduceSub, vaR, go_sem, ints, rows, rat, rats, ratsO, rtR, intsO, rowsO]
        simp -implicitDefEqProofs only [clR, Nat.reduceLeDiff, go_sem, evR, rat]
        have hs2 := pickS_seed (cs := cs) hl hs1 [-1, IntKind.i64.wrap (1 - pl), 2]
        generalize pickS cs f [-1, IntKind.i64.wrap (1 - pl), 2] = z at hs2 ⊢
        obtain ⟨v, f2⟩ := z
        (try simp only [] at hs2)
        (try simp only [])
        refine ⟨_, Weak.trans (Weak.share 7 rfl) (Weak.of [(0, .own 1000000000), (1, .t (.i pl)), (4, .own 4), (5, .own 5), (6, .t (.pin [nodes g.nd, rows g.w, rows g.v] 0)), (7, .t (.pin [.i v, rows m] 0))] [(1000000000, .box [bytes cs, .i f2.1, .i f2.2]), (4, .box [.v (.slice none 0 0), .v (.slice none 0 0), .v (.slice none 0 0)]), (5, .box [.i 0, .v (.slice none 0 0)])] [some 1000000000, some 4, some 5] (by simp) (by simp) ?_ ?_), ?_⟩
        · simp -implicitDefEqProofs only [ints, rows, Nat.reduceBEq, wkR, Nat.reduceEqDiff, ↓reduceIte, wrR, shareA, T.toSh, T.toShL, nodes, toShL_intsO]
        · exact ⟨⟨_, rfl, .refl _⟩, rfl, ⟨_, rfl, .refl _⟩, rfl, ⟨_, rfl, .refl _⟩, rfl, trivial⟩
        simp -implicitDefEqProofs only [go_sem, evR, ints, rows, rat, rats, nodes]
        exact ⟨⟨((g, (v, m)), f2), rfl, .inl rfl, hx1, ⟨by show m.length ≤ 400; omega, fun r hr => (hy2 r hr).2⟩, hs2⟩, (frameOK.refl _ _ _).upd _ (.inl (by simp))⟩
      · refine ⟨by omega, _, Weak.trans (Weak.share 7 rfl) (Weak.of [(0, .own 1000000000), (1, .t (.i pl)), (4, .own 4), (5, .own 5), (6, .t (.pin [nodes g.nd, rows g.w, rows g.v] 0)), (7, .t (.pin [.i pl, rows (m ++ [[60]])] 0))] [(1000000000, .box [bytes cs, .i f.1, .i f.2]), (4, .box [.v (.slice none 0 0), .v (.slice none 0 0), .v (.slice none 0 0)]), (5, .box [.i 0, .v (.slice none 0 0)])] [some 1000000000, some 4, some 5] (by simp) (by simp) ?_ ?_), ?_⟩
        · simp -implicitDefEqProofs only [ints, rows, Nat.reduceBEq, wkR, Nat.reduceEqDiff, ↓reduceIte, wrR, shareA, T.toSh, T.toShL, nodes, toShL_rowsU]
        · exact ⟨⟨_, rfl, .refl _⟩, rfl, ⟨_, rfl, .refl _⟩, rfl, ⟨_, rfl, .refl _⟩, rfl, trivial⟩
        simp -implicitDefEqProofs only [go_sem, evR, ints, rows, rat, rats, nodes]
        exact ⟨⟨((g, (pl, m ++ [[60]])), f), rfl, .inl rfl, hx1, ⟨by show (m ++ [[60]]).length ≤ 400; simp; omega, fun r hr => by rcases List.mem_append.1 hr with h | h; exact (hy2 r h).2; simp at h; subst h; decide⟩, hs1⟩, (frameOK.refl _ _ _).upd _ (.inl (by simp))⟩
      · refine ⟨_, Weak.trans (Weak.share 7 rfl) (Weak.of [(0, .own 1000000000), (1, .t (.i pl)), (4, .own 4), (5, .own 5), (6, .t (.pin [nodes g.nd, rows g.w, rows g.v] 0)), (7, .t (.pin [.i pl, rows m] 0))] [(1000000000, .box [bytes cs, .i f.1, .i f.2]), (4, .box [.v (.slice none 0 0), .v (.slice none 0 0), .v (.slice none 0 0)]), (5, .box [.i 0, .v (.slice none 0 0)])] [some 1000000000, some 4, some 5] (by simp) (by simp) ?_ ?_), ?_⟩
        · simp -implicitDefEqProofs only [ints, rows, Nat.reduceBEq, wkR, Nat.reduceEqDiff, ↓reduceIte, wrR, shareA, T.toSh, T.toShL, nodes, toShL_intsO]
        · exact ⟨⟨_, rfl, .refl _⟩, rfl, ⟨_, rfl, .refl _⟩, rfl, ⟨_, rfl, .refl _⟩, rfl, trivial⟩
        simp -implicitDefEqProofs only [go_sem, evR, ints, rows, rat, rats, nodes]
        exact ⟨⟨((g, (pl, m)), f), rfl, .inl rfl, hx1, ⟨by show m.length ≤ 400; omega, fun r hr => (hy2 r hr).2⟩, hs1⟩, (frameOK.refl _ _ _).upd _ (.inl (by simp))⟩
end
end Go.Ab

/- Contracts: drawn games with strategies of both players. -/
set_option linter.unusedSimpArgs false
set_option linter.unusedVariables false
namespace Go.Ab
open Go.Proofs
section
attribute [-go_sem] load1C load1V fldC lenC idxC loadNV nilCheckW
def dr3T (x : Gm × (Int × List (List Int)) × (Int × List (List Int))) : T := .tup [.agg [.sh 5 (chunk nodeC x.1.nd), .sh 1 (x.1.w.map ints), .sh 1 (x.1.v.map ints)], .agg [.i x.2.1.1, .sh 1 (x.2.1.2.map ints)], .agg [.i x.2.2.1, .sh 1 (x.2.2.2.map ints)]]
def okD3 (x : Gm × (Int × List (List Int)) × (Int × List (List Int))) : Prop := smallG x.1 ∧ smallS x.2.1.2 ∧ smallS x.2.2.2
set_option maxRecDepth 20000 in
theorem spec_l23Draw_w (cs : List Int) (hc : bytesOK cs) (hl : cs.length ≤ 100000000000) (a : Nat × Int) (ha : seedOK a) : Fun Try.prog 118 [.box [bytes cs, .i a.1, .i a.2]] [.own 1000000000] fun o r => ∃ x : (Gm × (Int × List (List Int)) × (Int × List (List Int))) × (Nat × Int), o = [.box [bytes cs, .i x.2.1, .i x.2.2]] ∧ r = dr3T x.1 ∧ (okD3 x.1 ∧ seedOK x.2) := by
  refine Fun.le (Q := fun o r => ∃ x : (Gm × (Int × List (List Int)) × (Int × List (List Int))) × (Nat × Int), o = [.box [bytes cs, .i x.2.1, .i x.2.2]] ∧ (r = dr3T x.1 ∨ x.1.2.2.2 = [] ∧ r = .tup [.agg [.sh 5 (chunk nodeC x.1.1.nd), .sh 1 (x.1.1.w.map ints), .sh 1 (x.1.1.v.map ints)], .agg [.i x.1.2.1.1, .sh 1 (x.1.2.1.2.map ints)], .agg [.i x.1.2.2.1, .v (.slice none 0 0)]]) ∧ (okD3 x.1 ∧ seedOK x.2)) ?_ ?_
  rotate_left
  · rintro o r ⟨x, rfl, rfl | ⟨e, rfl⟩, hx⟩
    · exact ⟨_, .refl _, x, rfl, rfl, hx⟩
    · refine ⟨dr3T x.1, ?_, x, rfl, rfl, hx⟩
      rw [dr3T, e]
      refine .tup rfl fun i h h' => ?_
      match i, h with
      | 0, _ => exact .refl _
      | 1, _ => exact .refl _
      | 2, _ =>
        refine .agg rfl fun j g g' => ?_
        match j, g with
        | 0, _ => exact .refl _
        | 1, _ => exact .nilSh 1
  refine fun_spec_l23Draw (by simp) ?_
  simp -implicitDefEqProofs only [go_sem, evR, ints, rows, rat, rats, c_spec_l23Draw]
  have hp := spec_l22Draw_w cs hc hl a ha 0 (.inl rfl)
  simp only [dr2T] at hp
  refine CallW.exi hp [1000000000] [] rfl Try.call133 (by simp) ?_ (by simp) ?_ (.inl rfl) (fun x hx => ?_)
  · simp -implicitDefEqProofs only [srR, Nat.reduceEqDiff, ↓reduceIte, ints, rows, intsO, rowsO]
  · simp -implicitDefEqProofs only [agR, Nat.reduceLeDiff, Nat.reduceSub, vaR, go_sem, ints, rows, rat, rats, ratsO, rtR, intsO, rowsO]
  simp -implicitDefEqProofs only [clR, Nat.reduceLeDiff, go_sem, evR, rat, opR, Nat.reduceBEq]
  obtain ⟨⟨g, ⟨p, m⟩⟩, d⟩ := x
  obtain ⟨hx1, hx2, hx3⟩ := hx
  (try simp only [] at hx1 hx2 hx3)
  (try simp only [])
  have hgl : gameL g := smallG_L hx1
  refine CallW.pure (isGame_t (spec_IsGame_ok g hgl)) [] rfl Try.call139 ?_ (by first | trivial | simp [T.noSh, T.noShL, rat]) rfl ?_
  · simp -implicitDefEqProofs only [agR, Nat.reduceLeDiff, Nat.reduceSub, vaR, go_sem, ints, rows, rat, rats, ratsO, rtR, intsO, rowsO]
  simp -implicitDefEqProofs only [go_sem, evR, ints, rows, rat, rats]
  cases hgb : isGameB g with
  | false =>
    refine ⟨fun _ => ⟨_, Weak.refl _ _, ?_⟩, fun h => absurd h (by decide)⟩
    simp -implicitDefEqProofs only [go_sem, evR, ints, rows, rat, rats]
    exact ⟨⟨⟨((g, (p, m), (1, [])), d), rfl, .inr ⟨rfl, rfl⟩, ⟨hx1, hx2, ⟨by simp, by simp⟩⟩, hx3⟩, (frameOK.refl _ _ _).upd _ (.inl (by simp))⟩, (frameOK.refl _ _ _).upd _ (.inl (by simp))⟩
  | true =>
    refine ⟨fun h => absurd h (by decide), fun _ => ?_⟩
    have hr := spec_l22Random_w cs hc hl d hx3 g hgb 1 (.inr rfl)
    refine CallW.exi hr [1000000000] [] rfl Try.call141 (by simp) ?_ (by simp) ?_ (.inl rfl) (fun y hy => ?_)
    · simp -implicitDefEqProofs only [srR, Nat.reduceEqDiff, ↓reduceIte, ints, rows, intsO, rowsO]
    · simp -implicitDefEqProofs only [agR, Nat.reduceLeDiff, Nat.reduceSub, vaR, go_sem, ints, rows, rat, rats, ratsO, rtR, intsO, rowsO]
    obtain ⟨q, e⟩ := y
    obtain ⟨hy1, hy2, hy3⟩ := hy
    (try simp only [] at hy1 hy2 hy3)
    (try simp only [])
    simp -implicitDefEqProofs only [clR, Nat.reduceLeDiff, go_sem, evR, rat, opR, Nat.reduceBEq]
    refine CallW.ref (next_box cs hc hl e hy3 6 (by omega)) [1000000000] [] rfl Try.call126 (by simp) ?_ (by simp) ?_ (.inl rfl) ?_
    · simp -implicitDefEqProofs only [srR, Nat.reduceEqDiff, ↓reduceIte, ints, rows, intsO, rowsO]
    · simp -implicitDefEqProofs only [agR, Nat.reduceLeDiff, Nat.reduceSub, vaR, go_sem, ints, rows, rat, rats, ratsO, rtR, intsO, rowsO]
    simp -implicitDefEqProofs only [clR, Nat.reduceLeDiff, go_sem, evR, rat]
    have hs1 := nextS_seed (cs := cs) hl hy3 6
    generalize nextS cs e 6 = z at hs1 ⊢
    obtain ⟨k, f⟩ := z
    simp only [] at hs1 ⊢
    refine ⟨fun hk => ?_, fun hk => ?_⟩
    · have hu := spec_l22Uniform_ok g hgb 1 (.inr rfl)
      refine CallW.res hu [] rfl Try.call178 ?_ (.inl rfl) ?_
      · simp -implicitDefEqProofs only [agR, Nat.reduceLeDiff, Nat.reduceSub, vaR, go_sem, ints, rows, rat, rats, ratsO, rtR, intsO, rowsO]
      simp -implicitDefEqProofs only [clR, Nat.reduceLeDiff, go_sem, evR, rat, opR, Nat.reduceBEq]
      refine CallW.ref (next_box cs hc hl f hs1 20 (by omega)) [1000000000] [] rfl Try.call126 (by simp) ?_ (by simp) ?_ (.inl rfl) ?_
      · simp -implicitDefEqProofs only [srR, Nat.reduceEqDiff, ↓reduceIte, ints, rows, intsO, rowsO]
      · simp -implicitDefEqProofs only [agR, Nat.reduceLeDiff, Nat.reduceSub, vaR, go_sem, ints, rows, rat, rats, ratsO, rtR, intsO, rowsO]
      simp -implicitDefEqProofs only [clR, Nat.reduceLeDiff, go_sem, evR, rat]
      have hs2 := nextS_seed (cs := cs) hl hs1 20
      generalize nextS cs f 20 = z at hs2 ⊢
      obtain ⟨k2, f2⟩ := z
      simp only [] at hs2 ⊢
      refine ⟨fun hk2 => ?_, fun hk2 => ?_⟩
      · refine ⟨_, Weak.trans (Weak.share 7 rfl) (Weak.of [(0, .own 1000000000), (2, .own 2), (3, .own 3), (4, .own 4), (5, .own 5), (6, .own 6), (7, .t (.pin [.i 0, rows (uniL g 1)] 0))] [(1000000000, .box [bytes cs, .i f2.1, .i f2.2]), (2, .box [.v (.slice none 0 0), .v (.slice none 0 0), .v (.slice none 0 0)]), (3, .box [.i 0, .v (.slice none 0 0)]), (4, .box [.i 0, .v (.slice none 0 0)]), (5, .box [nodes g.nd, rows g.w, rows g.v]), (6, .box [.i p, rows m])] [some 1000000000, some 2, some 3, some 4, some 5, some 6] (by simp) (by simp) ?_ ?_), ?_⟩
        · simp -implicitDefEqProofs only [ints, rows, Nat.reduceBEq, wkR, Nat.reduceEqDiff, ↓reduceIte, wrR, shareA, T.toSh, T.toShL, nodes, toShL_intsO]
        · exact ⟨⟨_, rfl, .refl _⟩, rfl, ⟨_, rfl, .refl _⟩, rfl, ⟨_, rfl, .refl _⟩, rfl, ⟨_, rfl, .refl _⟩, rfl, ⟨_, rfl, .refl _⟩, rfl, ⟨_, rfl, .refl _⟩, rfl, trivial⟩
        simp -implicitDefEqProofs only [go_sem, evR, ints, rows, rat, rats, nodes]
        exact ⟨⟨⟨((g, (p, m), (0, uniL g 1)), f2), rfl, .inl rfl, ⟨hx1, hx2, uniL_small hgb (.inr rfl)⟩, hs2⟩, (frameOK.refl _ _ _).upd _ (.inl (by simp))⟩, (frameOK.refl _ _ _).upd _ (.inl (by simp))⟩
      · refine ⟨_, Weak.trans (Weak.share 7 rfl) (Weak.of [(0, .own 1000000000), (2, .own 2), (3, .own 3), (4, .own 4), (5, .own 5), (6, .own 6), (7, .t (.pin [.i 1, rows (uniL g 1)] 0))] [(1000000000, .box [bytes cs, .i f2.1, .i f2.2]), (2, .box [.v (.slice none 0 0), .v (.slice none 0 0), .v (.slice none 0 0)]), (3, .box [.i 0, .v (.slice none 0 0)]), (4, .box [.i 0, .v (.slice none 0 0)]), (5, .box [nodes g.nd, rows g.w, rows g.v]), (6, .box [.i p, rows m])] [some 1000000000, some 2, some 3, some 4, some 5, some 6] (by simp) (by simp) ?_ ?_), ?_⟩
        · simp -implicitDefEqProofs only [ints, rows, Nat.reduceBEq, wkR, Nat.reduceEqDiff, ↓reduceIte, wrR, shareA, T.toSh, T.toShL, nodes, toShL_intsO]
        · exact ⟨⟨_, rfl, .refl _⟩, rfl, ⟨_, rfl, .refl _⟩, rfl, ⟨_, rfl, .refl _⟩, rfl, ⟨_, rfl, .refl _⟩, rfl, ⟨_, rfl, .refl _⟩, rfl, ⟨_, rfl, .refl _⟩, rfl, trivial⟩
        simp -implicitDefEqProofs only [go_sem, evR, ints, rows, rat, rats, nodes]
        exact ⟨⟨⟨((g, (p, m), (1, uniL g 1)), f2), rfl, .inl rfl, ⟨hx1, hx2, uniL_small hgb (.inr rfl)⟩, hs2⟩, (frameOK.refl _ _ _).upd _ (.inl (by simp))⟩, (frameOK.refl _ _ _).upd _ (.inl (by simp))⟩
    · skip
      refine CallW.ref (next_box cs hc hl f hs1 20 (by omega)) [1000000000] [] rfl Try.call126 (by simp) ?_ (by simp) ?_ (.inl rfl) ?_
      · simp -implicitDefEqProofs only [srR, Nat.reduceEqDiff, ↓reduceIte, ints, rows, intsO, rowsO]
      · simp -implicitDefEqProofs only [agR, Nat.reduceLeDiff, Nat.reduceSub, vaR, go_sem, ints, rows, rat, rats, ratsO, rtR, intsO, rowsO]
      simp -implicitDefEqProofs only [clR, Nat.reduceLeDiff, go_sem, evR, rat]
      have hs2 := nextS_seed (cs := cs) hl hs1 20
      generalize nextS cs f 20 = z at hs2 ⊢
      obtain ⟨k2, f2⟩ := z
      simp only [] at hs2 ⊢
      refine ⟨fun hk2 => ?_, fun hk2 => ?_⟩
      · refine ⟨_, Weak.trans (Weak.share 7 rfl) (Weak.of [(0, .own 1000000000), (2, .own 2), (3, .own 3), (4, .own 4), (5, .own 5), (6, .own 6), (7, .t (.pin [.i 0, rows (q)] 0))] [(1000000000, .box [bytes cs, .i f2.1, .i f2.2]), (2, .box [.v (.slice none 0 0), .v (.slice none 0 0), .v (.slice none 0 0)]), (3, .box [.i 0, .v (.slice none 0 0)]), (4, .box [.i 0, .v (.slice none 0 0)]), (5, .box [nodes g.nd, rows g.w, rows g.v]), (6, .box [.i p, rows m])] [some 1000000000, some 2, some 3, some 4, some 5, some 6] (by simp) (by simp) ?_ ?_), ?_⟩
        · simp -implicitDefEqProofs only [ints, rows, Nat.reduceBEq, wkR, Nat.reduceEqDiff, ↓reduceIte, wrR, shareA, T.toSh, T.toShL, nodes, toShL_intsO]
        · exact ⟨⟨_, rfl, .refl _⟩, rfl, ⟨_, rfl, .refl _⟩, rfl, ⟨_, rfl, .refl _⟩, rfl, ⟨_, rfl, .refl _⟩, rfl, ⟨_, rfl, .refl _⟩, rfl, ⟨_, rfl, .refl _⟩, rfl, trivial⟩
        simp -implicitDefEqProofs only [go_sem, evR, ints, rows, rat, rats, nodes]
        exact ⟨⟨⟨((g, (p, m), (0, q)), f2), rfl, .inl rfl, ⟨hx1, hx2, ⟨by show q.length ≤ 400; omega, fun r hr => (hy2 r hr).2⟩⟩, hs2⟩, (frameOK.refl _ _ _).upd _ (.inl (by simp))⟩, (frameOK.refl _ _ _).upd _ (.inl (by simp))⟩
      · refine ⟨_, Weak.trans (Weak.share 7 rfl) (Weak.of [(0, .own 1000000000), (2, .own 2), (3, .own 3), (4, .own 4), (5, .own 5), (6, .own 6), (7, .t (.pin [.i 1, rows (q)] 0))] [(1000000000, .box [bytes cs, .i f2.1, .i f2.2]), (2, .box [.v (.slice none 0 0), .v (.slice none 0 0), .v (.slice none 0 0)]), (3, .box [.i 0, .v (.slice none 0 0)]), (4, .box [.i 0, .v (.slice none 0 0)]), (5, .box [nodes g.nd, rows g.w, rows g.v]), (6, .box [.i p, rows m])] [some 1000000000, some 2, some 3, some 4, some 5, some 6] (by simp) (by simp) ?_ ?_), ?_⟩
        · simp -implicitDefEqProofs only [ints, rows, Nat.reduceBEq, wkR, Nat.reduceEqDiff, ↓reduceIte, wrR, shareA, T.toSh, T.toShL, nodes, toShL_intsO]
        · exact ⟨⟨_, rfl, .refl _⟩, rfl, ⟨_, rfl, .refl _⟩, rfl, ⟨_, rfl, .refl _⟩, rfl, ⟨_, rfl, .refl _⟩, rfl, ⟨_, rfl, .refl _⟩, rfl, ⟨_, rfl, .refl _⟩, rfl, trivial⟩
        simp -implicitDefEqProofs only [go_sem, evR, ints, rows, rat, rats, nodes]
        exact ⟨⟨⟨((g, (p, m), (1, q)), f2), rfl, .inl rfl, ⟨hx1, hx2, ⟨by show q.length ≤ 400; omega, fun r hr => (hy2 r hr).2⟩⟩, hs2⟩, (frameOK.refl _ _ _).upd _ (.inl (by simp))⟩, (frameOK.refl _ _ _).upd _ (.inl (by simp))⟩
end
end Go.Ab

/- Functions in compact form, with hints. -/
set_option linter.unusedVariables false
namespace Go.Ab
open Go.Proofs

def c_impl_bestAgainst_h : CC :=
 (.seq (.reg [.o (.box 2 (sl 0)),
 .o (.box 3 (sl 1)),
 .o (.move 4 (ci 0)),
 .o (.alloc 5 [.v (.int .i64 0), .v (.slice none 0 0)])])
 ((.seq (.reg [.o (.loadN 16 3 (sl 2)),
 .o (.fld 17 0 (sl 3)),
 .o (.load1 18 (sl 17)),
 .o (.bin 19 .sub (ci 1) (sl 18)),
 .o (.fld 20 1 (sl 3)),
 .o (.load1 21 (sl 20)),
 .o (.build 22 [.v (.slice none 0 0), .v (.slice none 0 0), .v (.slice none 0 0), .v (.int .i64 0), .v (.int .i64 0), .v (.slice none 0 0), .v (.slice none 0 0), .v (.slice none 0 0), .v (.int .i64 0), .v (.slice none 0 0)] [(0, 3), (3, 1), (4, 1), (5, 1), (6, 1), (7, 1), (8, 2)] [(0, (sl 16)), (1, (sl 19)), (5, (sl 21))]),
 .o (.alloc 6 [.v (.slice none 0 0), .v (.slice none 0 0), .v (.slice none 0 0), .v (.int .i64 0), .v (.int .i64 0), .v (.slice none 0 0), .v (.slice none 0 0), .v (.slice none 0 0), .v (.int .i64 0), .v (.slice none 0 0)]),
 .o (.store 10 (sl 6) (sl 22))])
 ((.seq (.draw [27, 32] [(kR, .o (.fld 23 0 (sl 2))),
 (kR, .o (.fld 24 0 (sl 23))),
 (kR, .o (.load1 25 (sl 24))),
 (kR, .o (.lenS 26 (sl 25))),
 (kN, .o (.make 27 [.v (.int .i64 0)] 8 (sl 26) (sl 26))),
 (.r false [6, 27], .o (.fld 28 0 (sl 2))),
 (.r false [6, 27], .o (.fld 29 0 (sl 28))),
 (.r false [6, 27], .o (.load1 30 (sl 29))),
 (.r false [6, 27], .o (.lenS 31 (sl 30))),
 (kN, .o (.make 32 [.v (.int .i64 0)] 8 (sl 31) (sl 31))),
 (.r false [32], .o (.fld 33 5 (sl 6))),
 (.h (some [6, 27]) [32], .o (.store 1 (sl 33) (sl 27))),
 (kR, .o (.fld 34 6 (sl 6))),
 (kH, .o (.store 1 (sl 34) (sl 32)))])
 ((.seq (.reg [.o (.fld 35 1 (sl 2)),
 .o (.load1 36 (sl 35)),
 .o (.lenS 37 (sl 36)),
 .o (.move 7 (sl 37))])
 ((.seq (.seq (.reg [.o (.fld 38 0 (sl 2)),
 .o (.loadN 39 1 (sl 38)),
 .o (.fld 40 3 (sl 6)),
 .o (.load1 41 (sl 40)),
 .o (.call (some 42) (cf 181) [(sl 39), (sl 41)]),
 .o (.lenS 43 (sl 42)),
 .o (.move 44 (ci 0))])
 ((.block 0 (.loop (.seq (.reg [.o (.bin 45 .lss (sl 44) (sl 43))])
 ((.seq (.cond (sl 45) .skip
 (.exit 0))
 ((.seq (.block 1 (.seq (.reg [.o (.move 46 (sl 44)),
 .o (.idx 47 1 (sl 42) (sl 44)),
 .o (.load1 48 (sl 47)),
 .o (.move 8 (sl 46)),
 .o (.move 9 (sl 48))])
 ((.reg [.o (.fld 49 5 (sl 6)),
 .o (.load1 50 (sl 49)),
 .o (.move 51 (sl 9)),
 .o (.move 52 (sl 8)),
 .o (.move 53 (sl 7)),
 .o (.bin 54 .mul (sl 52) (sl 53)),
 .o (.idx 55 1 (sl 50) (sl 51)),
 .o (.store 1 (sl 55) (sl 54))]))))
 ((.reg [.o (.bin 56 .add (sl 44) (ci 1)),
 .o (.move 44 (sl 56))])))))))))))
 ((.seq (.seq (.reg [.o (.fld 57 0 (sl 2)),
 .o (.loadN 58 1 (sl 57)),
 .o (.fld 59 0 (sl 3)),
 .o (.load1 60 (sl 59)),
 .o (.call (some 61) (cf 181) [(sl 58), (sl 60)]),
 .o (.lenS 62 (sl 61)),
 .o (.move 63 (ci 0))])
 ((.block 2 (.loop (.seq (.reg [.o (.bin 64 .lss (sl 63) (sl 62))])
 ((.seq (.cond (sl 64) .skip
 (.exit 2))
 ((.seq (.block 3 (.seq (.reg [.o (.move 65 (sl 63)),
 .o (.idx 66 1 (sl 61) (sl 63)),
 .o (.load1 67 (sl 66)),
 .o (.move 10 (sl 65)),
 .o (.move 11 (sl 67))])
 ((.reg [.o (.fld 68 6 (sl 6)),
 .o (.load1 69 (sl 68)),
 .o (.move 70 (sl 11)),
 .o (.move 71 (sl 10)),
 .o (.move 72 (sl 7)),
 .o (.bin 73 .mul (sl 71) (sl 72)),
 .o (.idx 74 1 (sl 69) (sl 70)),
 .o (.store 1 (sl 74) (sl 73))]))))
 ((.reg [.o (.bin 75 .add (sl 63) (ci 1)),
 .o (.move 63 (sl 75))])))))))))))
 ((.seq (.draw [83, 86] [(kR, .o (.fld 76 3 (sl 6))),
 (kR, .o (.load1 77 (sl 76))),
 (kR, .o (.move 78 (sl 7))),
 (kR, .o (.fld 79 0 (sl 2))),
 (kR, .o (.loadN 80 1 (sl 79))),
 (kR, .o (.fld 81 3 (sl 6))),
 (kR, .o (.load1 82 (sl 81))),
 (.c false [], .o (.call (some 83) (cf 181) [(sl 80), (sl 82)])),
 (kR, .o (.lenS 84 (sl 83))),
 (kR, .o (.bin 85 .mul (sl 78) (sl 84))),
 (kN, .o (.make 86 [.v (.slice none 0 0)] 24 (sl 85) (sl 85))),
 (kR, .o (.build 87 [.v (.int .i64 0), .v (.slice none 0 0)] [(0, 1), (1, 1)] [(0, (sl 77)), (1, (sl 86))])),
 (kR, .o (.fld 88 8 (sl 6))),
 (kH, .o (.store 2 (sl 88) (sl 87)))])
 ((.seq (.reg [.o (.move 12 (ci 0))])
 ((.seq (.seq (.reg [.o (.move 89 (sl 7)),
 .o (.move 90 (ci 0))])
 ((.block 4 (.loop (.seq (.reg [.o (.bin 91 .lss (sl 90) (sl 89))])
 ((.seq (.cond (sl 91) .skip
 (.exit 4))
 ((.seq (.block 5 (.seq (.reg [.o (.move 92 (sl 90)),
 .o (.move 13 (sl 92))])
 ((.seq (.reg [.o (.move 93 (sl 13)),
 .o (.fld 94 4 (sl 6)),
 .o (.store 1 (sl 94) (sl 93))])
 ((.seq (.reg [.o (.move 95 (sl 7)),
 .o (.make 96 [.v (.int .i64 0)] 8 (sl 95) (sl 95)),
 .o (.move 14 (sl 96))])
 ((.seq (.seq (.reg [.o (.move 97 (sl 14)),
 .o (.lenS 98 (sl 97)),
 .o (.move 99 (ci 0))])
 ((.block 6 (.loop (.seq (.reg [.o (.bin 100 .lss (sl 99) (sl 98))])
 ((.seq (.cond (sl 100) .skip
 (.exit 6))
 ((.seq (.block 7 (.seq (.reg [.o (.move 101 (sl 99)),
 .o (.move 15 (sl 101))])
 ((.seq (.reg [.o (.fld 102 3 (sl 6)),
 .o (.load1 103 (sl 102)),
 .o (.bin 104 .eql (sl 103) (ci 0))])
 ((.cond (sl 104) (.reg [.o (.move 105 (sl 14)),
 .o (.move 106 (sl 15)),
 .o (.fld 107 1 (sl 2)),
 .o (.load1 108 (sl 107)),
 .o (.move 109 (sl 13)),
 .o (.idx 110 1 (sl 108) (sl 109)),
 .o (.load1 111 (sl 110)),
 .o (.move 112 (sl 15)),
 .o (.idx 113 1 (sl 111) (sl 112)),
 .o (.load1 114 (sl 113)),
 .o (.idx 115 1 (sl 105) (sl 106)),
 .o (.store 1 (sl 115) (sl 114))])
 (.reg [.o (.move 116 (sl 14)),
 .o (.move 117 (sl 15)),
 .o (.fld 118 1 (sl 2)),
 .o (.load1 119 (sl 118)),
 .o (.move 120 (sl 15)),
 .o (.idx 121 1 (sl 119) (sl 120)),
 .o (.load1 122 (sl 121)),
 .o (.move 123 (sl 13)),
 .o (.idx 124 1 (sl 122) (sl 123)),
 .o (.load1 125 (sl 124)),
 .o (.idx 126 1 (sl 116) (sl 117)),
 .o (.store 1 (sl 126) (sl 125))])))))))
 ((.reg [.o (.bin 127 .add (sl 99) (ci 1)),
 .o (.move 99 (sl 127))])))))))))))
 ((.weak (.reg [.o (.move 128 (sl 12)),
 .o (.move 129 (sl 14)),
 .o (.fld 130 0 (sl 2)),
 .o (.loadN 131 1 (sl 130)),
 .o (.call (some 132) (cf 164) [(sl 131), (ci 0)]),
 .o (.call (some 133) (cf 182) [(sl 6), (ci 0), (sl 129), (sl 132)]),
 .o (.bin 134 .add (sl 128) (sl 133)),
 .o (.move 12 (sl 134))])))))))))))
 ((.reg [.o (.bin 135 .add (sl 90) (ci 1)),
 .o (.move 90 (sl 135))])))))))))))
 ((.seq (.weak (.draw [] [(kR, .o (.move 136 (sl 12))),
 (kR, .o (.fld 137 8 (sl 6))),
 (kR, .o (.loadN 138 2 (sl 137))),
 (kR, .o (.move 4 (sl 136))),
 (kH, .o (.store 2 (sl 5) (sl 138)))]))
 (.ret))))))))))))))))))))
theorem fun_impl_bestAgainst_h {rin : List T} {args : List A} {Q : List T → T → Prop} (ha : args.length ≤ 139) (h : cW Try.prog 139 c_impl_bestAgainst_h (retP Try.prog [.tmp 4, .cell 5 47] rin.length Q) (St.of (enum 0 args) (enum 1000000000 rin))) :
    Fun Try.prog 122 rin args Q :=
  Fun.of (H := ⟨[], [28, 30]⟩) Try.func122 rfl rfl rfl (by kernel_rfl) ha (by decide) h

def c_spec_l24Run_h : CC :=
 (.seq (.reg [.o (.box 2 (sl 0)),
 .o (.box 3 (sl 1)),
 .o (.move 4 (ci 0)),
 .o (.alloc 5 [.v (.int .i64 0), .v (.slice none 0 0)])])
 ((.seq (.reg [.o (.loadN 13 3 (sl 2)),
 .o (.fld 14 0 (sl 3)),
 .o (.load1 15 (sl 14)),
 .o (.bin 16 .sub (ci 1) (sl 15)),
 .o (.loadN 17 2 (sl 3)),
 .o (.build 18 [.v (.slice none 0 0), .v (.slice none 0 0), .v (.slice none 0 0), .v (.int .i64 0), .v (.int .i64 0), .v (.slice none 0 0), .v (.slice none 0 0)] [(0, 3), (3, 1), (4, 2), (6, 1)] [(0, (sl 13)), (1, (sl 16)), (2, (sl 17))]),
 .o (.box 19 (sl 18)),
 .o (.move 6 (sl 19))])
 ((.seq (.draw [26, 28] [(kR, .o (.move 20 (sl 6))),
 (kR, .o (.loadN 21 3 (sl 2))),
 (kR, .o (.move 22 (sl 6))),
 (kR, .o (.nilc 23 (sl 22))),
 (kR, .o (.fld 24 3 (sl 23))),
 (kR, .o (.load1 25 (sl 24))),
 (.c false [], .o (.call (some 26) (cf 186) [(sl 21), (sl 25)])),
 (kR, .o (.lenS 27 (sl 26))),
 (kN, .o (.make 28 [.v (.slice none 0 0)] 24 (sl 27) (sl 27))),
 (kR, .o (.nilc 29 (sl 20))),
 (kR, .o (.fld 30 6 (sl 29))),
 (kH, .o (.store 1 (sl 30) (sl 28)))])
 ((.seq (.reg [.o (.move 7 (ci 0))])
 ((.seq (.seq (.reg [.o (.move 8 (ci 0))])
 ((.block 0 (.loop (.seq (.seq (.reg [.o (.move 31 (sl 8)),
 .o (.fld 32 1 (sl 2)),
 .o (.load1 33 (sl 32)),
 .o (.lenS 34 (sl 33)),
 .o (.bin 35 .lss (sl 31) (sl 34))])
 ((.cond (sl 35) .skip
 (.exit 0))))
 ((.seq (.block 1 (.seq (.reg [.o (.bslice 38 1 0 []),
 .o (.move 9 (sl 38))])
 ((.seq (.seq (.reg [.o (.move 10 (ci 0))])
 ((.block 2 (.loop (.seq (.seq (.reg [.o (.move 39 (sl 10)),
 .o (.fld 40 1 (sl 2)),
 .o (.load1 41 (sl 40)),
 .o (.lenS 42 (sl 41)),
 .o (.bin 43 .lss (sl 39) (sl 42))])
 ((.cond (sl 43) .skip
 (.exit 2))))
 ((.seq (.block 3 (.seq (.reg [.o (.move 47 (sl 6)),
 .o (.move 48 (sl 8)),
 .o (.move 49 (sl 10)),
 .o (.call (some 50) (cf 188) [(sl 47), (sl 48), (sl 49)]),
 .o (.move 46 (sl 50)),
 .o (.extract 51 (sl 46) 0),
 .o (.extract 52 (sl 46) 1),
 .o (.move 11 (sl 51)),
 .o (.move 12 (sl 52))])
 ((.reg [.o (.move 53 (sl 9)),
 .o (.fld 54 1 (sl 2)),
 .o (.load1 55 (sl 54)),
 .o (.move 56 (sl 11)),
 .o (.idx 57 1 (sl 55) (sl 56)),
 .o (.load1 58 (sl 57)),
 .o (.move 59 (sl 12)),
 .o (.idx 60 1 (sl 58) (sl 59)),
 .o (.load1 61 (sl 60)),
 .o (.bslice 62 1 1 [(0, (sl 61))]),
 .o (.app 63 1 8 (sl 53) (sl 62)),
 .o (.move 9 (sl 63))]))))
 ((.reg [.o (.move 44 (sl 10)),
 .o (.bin 45 .add (sl 44) (ci 1)),
 .o (.move 10 (sl 45))])))))))))
 ((.weak (.reg [.o (.move 64 (sl 7)),
 .o (.move 65 (sl 6)),
 .o (.move 66 (sl 8)),
 .o (.move 67 (sl 9)),
 .o (.fld 68 0 (sl 2)),
 .o (.loadN 69 1 (sl 68)),
 .o (.call (some 70) (cf 158) [(sl 69), (ci 0)]),
 .o (.call (some 71) (cf 189) [(sl 65), (ci 0), (sl 66), (sl 67), (sl 70)]),
 .o (.bin 72 .add (sl 64) (sl 71)),
 .o (.move 7 (sl 72))])))))))
 ((.reg [.o (.move 36 (sl 8)),
 .o (.bin 37 .add (sl 36) (ci 1)),
 .o (.move 8 (sl 37))])))))))))
 ((.seq (.weak (.draw [] [(kR, .o (.move 73 (sl 7))),
 (kR, .o (.move 74 (sl 6))),
 (kR, .o (.nilc 75 (sl 74))),
 (kR, .o (.fld 76 3 (sl 75))),
 (kR, .o (.load1 77 (sl 76))),
 (kR, .o (.move 78 (sl 6))),
 (kR, .o (.nilc 79 (sl 78))),
 (kR, .o (.fld 80 6 (sl 79))),
 (kR, .o (.load1 81 (sl 80))),
 (kR, .o (.build 82 [.v (.int .i64 0), .v (.slice none 0 0)] [(0, 1), (1, 1)] [(0, (sl 77)), (1, (sl 81))])),
 (kR, .o (.move 4 (sl 73))),
 (kH, .o (.store 2 (sl 5) (sl 82)))]))
 (.ret))))))))))))
theorem fun_spec_l24Run_h {rin : List T} {args : List A} {Q : List T → T → Prop} (ha : args.length ≤ 83) (h : cW Try.prog 83 c_spec_l24Run_h (retP Try.prog [.tmp 4, .cell 5 47] rin.length Q) (St.of (enum 0 args) (enum 1000000000 rin))) :
    Fun Try.prog 132 rin args Q :=
  Fun.of (H := ⟨[], [13, 14]⟩) Try.func132 rfl rfl rfl (by kernel_rfl) ha (by decide) h

def c___impl_responder__respond_h : CC :=
 (.seq (.reg [.o (.move 8 (ci 0))])
 ((.seq (.reg [.o (.move 25 (sl 0)),
 .o (.nilc 26 (sl 25)),
 .o (.fld 27 0 (sl 26)),
 .o (.fld 28 0 (sl 27)),
 .o (.fld 29 0 (sl 28)),
 .o (.load1 30 (sl 29)),
 .o (.move 31 (sl 1)),
 .o (.idx 32 5 (sl 30) (sl 31)),
 .o (.loadN 33 5 (sl 32)),
 .o (.alloc 9 [.v (.int .i64 0), .v (.int .i64 0), .v (.int .i64 0), .v (.int .i64 0), .v (.slice none 0 0)]),
 .o (.store 5 (sl 9) (sl 33))])
 ((.seq (.seq (.reg [.o (.fld 34 0 (sl 9)),
 .o (.load1 35 (sl 34))])
 ((.block 0 (.seq (.reg [.o (.bin 37 .eql (sl 35) (ci 2)),
 .o (.move 36 (sl 37))])
 ((.cond (sl 36) (.seq (.reg [.o (.move 10 (ci 0))])
 ((.seq (.seq (.reg [.o (.move 38 (sl 2)),
 .o (.lenS 39 (sl 38)),
 .o (.move 40 (ci 0))])
 ((.block 1 (.loop (.seq (.reg [.o (.bin 41 .lss (sl 40) (sl 39))])
 ((.seq (.cond (sl 41) .skip
 (.exit 1))
 ((.seq (.block 2 (.seq (.reg [.o (.move 42 (sl 40)),
 .o (.idx 43 1 (sl 38) (sl 40)),
 .o (.load1 44 (sl 43)),
 .o (.move 11 (sl 42)),
 .o (.move 12 (sl 44))])
 ((.seq (.reg [.o (.move 45 (sl 0)),
 .o (.nilc 46 (sl 45)),
 .o (.fld 47 3 (sl 46)),
 .o (.load1 48 (sl 47)),
 .o (.bin 49 .eql (sl 48) (ci 0))])
 ((.cond (sl 49) (.draw [] [(kR, .o (.move 50 (sl 10))),
 (kR, .o (.move 51 (sl 12))),
 (kR, .o (.move 52 (sl 0))),
 (kR, .o (.nilc 53 (sl 52))),
 (kR, .o (.fld 54 0 (sl 53))),
 (kR, .o (.loadN 55 3 (sl 54))),
 (kR, .o (.move 56 (sl 1))),
 (kR, .o (.move 57 (sl 0))),
 (kR, .o (.nilc 58 (sl 57))),
 (kR, .o (.fld 59 4 (sl 58))),
 (kR, .o (.load1 60 (sl 59))),
 (kR, .o (.move 61 (sl 11))),
 (kR, .o (.call (some 62) (cf 213) [(sl 55), (sl 56), (sl 60), (sl 61)])),
 (kR, .o (.bin 63 .mul (sl 51) (sl 62))),
 (kR, .o (.bin 64 .add (sl 50) (sl 63))),
 (kR, .o (.move 10 (sl 64)))])
 (.draw [] [(kR, .o (.move 65 (sl 10))),
 (kR, .o (.move 66 (sl 12))),
 (kR, .o (.move 67 (sl 0))),
 (kR, .o (.nilc 68 (sl 67))),
 (kR, .o (.fld 69 0 (sl 68))),
 (kR, .o (.loadN 70 3 (sl 69))),
 (kR, .o (.move 71 (sl 1))),
 (kR, .o (.move 72 (sl 11))),
 (kR, .o (.move 73 (sl 0))),
 (kR, .o (.nilc 74 (sl 73))),
 (kR, .o (.fld 75 4 (sl 74))),
 (kR, .o (.load1 76 (sl 75))),
 (kR, .o (.call (some 77) (cf 213) [(sl 70), (sl 71), (sl 72), (sl 76)])),
 (kR, .o (.bin 78 .mul (sl 66) (sl 77))),
 (kR, .o (.bin 79 .sub (sl 65) (sl 78))),
 (kR, .o (.move 10 (sl 79)))])))))))
 ((.reg [.o (.bin 80 .add (sl 40) (ci 1)),
 .o (.move 40 (sl 80))])))))))))))
 ((.seq (.reg [.o (.move 81 (sl 10)),
 .o (.move 82 (sl 3)),
 .o (.call (some 83) (cf 163) [(ci 60), (sl 82)]),
 .o (.bin 84 .mul (sl 81) (sl 83)),
 .o (.move 8 (sl 84))])
 (.ret))))))
 (.seq (.reg [.o (.move 86 (sl 0)),
 .o (.nilc 87 (sl 86)),
 .o (.fld 88 3 (sl 87)),
 .o (.load1 89 (sl 88)),
 .o (.bin 90 .eql (sl 35) (sl 89)),
 .o (.move 85 (sl 90))])
 ((.cond (sl 85) (.seq (.reg [.o (.move 13 (ci 0)),
 .o (.move 14 (ci 0))])
 ((.seq (.seq (.reg [.o (.fld 91 4 (sl 9)),
 .o (.load1 92 (sl 91)),
 .o (.lenS 93 (sl 92)),
 .o (.move 94 (ci 0))])
 ((.block 3 (.loop (.seq (.reg [.o (.bin 95 .lss (sl 94) (sl 93))])
 ((.seq (.cond (sl 95) .skip
 (.exit 3))
 ((.seq (.block 4 (.seq (.reg [.o (.move 96 (sl 94)),
 .o (.idx 97 1 (sl 92) (sl 94)),
 .o (.load1 98 (sl 97)),
 .o (.move 15 (sl 96)),
 .o (.move 16 (sl 98))])
 ((.seq (.reg [.o (.move 99 (sl 0)),
 .o (.move 100 (sl 16)),
 .o (.move 101 (sl 2)),
 .o (.move 102 (sl 3)),
 .o (.bin 103 .sub (sl 102) (ci 1)),
 .o (.call (some 104) (cf 182) [(sl 99), (sl 100), (sl 101), (sl 103)]),
 .o (.move 17 (sl 104))])
 ((.seq (.reg [.o (.move 105 (sl 15)),
 .o (.bin 106 .eql (sl 105) (ci 0)),
 .o (.move 107 (sl 106)),
 .g 107 false (some 108) (.move 108 (sl 17)),
 .g 107 false (some 109) (.move 109 (sl 14)),
 .g 107 false (some 110) (.bin 110 .gtr (sl 108) (sl 109)),
 .o (.pick 111 (sl 107) (cb true) (sl 110))])
 ((.cond (sl 111) (.reg [.o (.move 112 (sl 15)),
 .o (.move 113 (sl 17)),
 .o (.move 13 (sl 112)),
 .o (.move 14 (sl 113))])
 .skip))))))))
 ((.reg [.o (.bin 114 .add (sl 94) (ci 1)),
 .o (.move 94 (sl 114))])))))))))))
 ((.seq (.reg [.o (.fld 115 4 (sl 9)),
 .o (.load1 116 (sl 115)),
 .o (.lenS 117 (sl 116)),
 .o (.make 118 [.v (.int .i64 0)] 8 (sl 117) (sl 117)),
 .o (.move 18 (sl 118))])
 ((.seq (.reg [.o (.move 119 (sl 18)),
 .o (.move 120 (sl 13)),
 .o (.idx 121 1 (sl 119) (sl 120)),
 .o (.store 1 (sl 121) (ci 60))])
 ((.seq (.weak (.draw [] [(kR, .o (.move 122 (sl 0))),
 (kR, .o (.nilc 123 (sl 122))),
 (kR, .o (.fld 124 8 (sl 123))),
 (kR, .o (.fld 125 1 (sl 124))),
 (kR, .o (.load1 126 (sl 125))),
 (kR, .o (.move 127 (sl 0))),
 (kR, .o (.nilc 128 (sl 127))),
 (kR, .o (.fld 129 5 (sl 128))),
 (kR, .o (.load1 130 (sl 129))),
 (kR, .o (.move 131 (sl 1))),
 (kR, .o (.idx 132 1 (sl 130) (sl 131))),
 (kR, .o (.load1 133 (sl 132))),
 (kR, .o (.move 134 (sl 0))),
 (kR, .o (.nilc 135 (sl 134))),
 (kR, .o (.fld 136 4 (sl 135))),
 (kR, .o (.load1 137 (sl 136))),
 (kR, .o (.bin 138 .add (sl 133) (sl 137))),
 (kR, .o (.move 139 (sl 18))),
 (kR, .o (.idx 140 1 (sl 126) (sl 138))),
 (kH, .o (.store 1 (sl 140) (sl 139)))]))
 ((.seq (.weak (.reg [.o (.move 141 (sl 14)),
 .o (.bin 142 .mul (sl 141) (ci 60)),
 .o (.move 8 (sl 142))]))
 (.ret))))))))))))
 .skip)))))))))
 ((.seq (.reg [.o (.move 19 (ci 0))])
 ((.seq (.seq (.reg [.o (.fld 143 4 (sl 9)),
 .o (.load1 144 (sl 143)),
 .o (.lenS 145 (sl 144)),
 .o (.move 146 (ci 0))])
 ((.block 5 (.loop (.seq (.reg [.o (.bin 147 .lss (sl 146) (sl 145))])
 ((.seq (.cond (sl 147) .skip
 (.exit 5))
 ((.seq (.block 6 (.seq (.reg [.o (.move 148 (sl 146)),
 .o (.idx 149 1 (sl 144) (sl 146)),
 .o (.load1 150 (sl 149)),
 .o (.move 20 (sl 148)),
 .o (.move 21 (sl 150))])
 ((.seq (.reg [.o (.move 151 (sl 2)),
 .o (.lenS 152 (sl 151)),
 .o (.make 153 [.v (.int .i64 0)] 8 (sl 152) (sl 152)),
 .o (.move 22 (sl 153))])
 ((.seq (.seq (.reg [.o (.move 154 (sl 2)),
 .o (.lenS 155 (sl 154)),
 .o (.move 156 (ci 0))])
 ((.block 7 (.loop (.seq (.reg [.o (.bin 157 .lss (sl 156) (sl 155))])
 ((.seq (.cond (sl 157) .skip
 (.exit 7))
 ((.seq (.block 8 (.seq (.reg [.o (.move 158 (sl 156)),
 .o (.idx 159 1 (sl 154) (sl 156)),
 .o (.load1 160 (sl 159)),
 .o (.move 23 (sl 158)),
 .o (.move 24 (sl 160))])
 ((.draw [] [(kR, .o (.move 161 (sl 22))),
 (kR, .o (.move 162 (sl 23))),
 (kR, .o (.move 163 (sl 24))),
 (kR, .o (.move 164 (sl 0))),
 (kR, .o (.nilc 165 (sl 164))),
 (kR, .o (.fld 166 7 (sl 165))),
 (kR, .o (.load1 167 (sl 166))),
 (kR, .o (.move 168 (sl 0))),
 (kR, .o (.nilc 169 (sl 168))),
 (kR, .o (.fld 170 6 (sl 169))),
 (kR, .o (.load1 171 (sl 170))),
 (kR, .o (.move 172 (sl 1))),
 (kR, .o (.idx 173 1 (sl 171) (sl 172))),
 (kR, .o (.load1 174 (sl 173))),
 (kR, .o (.move 175 (sl 23))),
 (kR, .o (.bin 176 .add (sl 174) (sl 175))),
 (kR, .o (.idx 177 1 (sl 167) (sl 176))),
 (kR, .o (.load1 178 (sl 177))),
 (kR, .o (.move 179 (sl 20))),
 (kR, .o (.idx 180 1 (sl 178) (sl 179))),
 (kR, .o (.load1 181 (sl 180))),
 (kR, .o (.bin 182 .mul (sl 163) (sl 181))),
 (kR, .o (.idx 183 1 (sl 161) (sl 162))),
 (kH, .o (.store 1 (sl 183) (sl 182)))]))))
 ((.reg [.o (.bin 184 .add (sl 156) (ci 1)),
 .o (.move 156 (sl 184))])))))))))))
 ((.weak (.reg [.o (.move 185 (sl 19)),
 .o (.move 186 (sl 0)),
 .o (.move 187 (sl 21)),
 .o (.move 188 (sl 22)),
 .o (.move 189 (sl 3)),
 .o (.bin 190 .sub (sl 189) (ci 1)),
 .o (.call (some 191) (cf 182) [(sl 186), (sl 187), (sl 188), (sl 190)]),
 .o (.bin 192 .add (sl 185) (sl 191)),
 .o (.move 19 (sl 192))])))))))))
 ((.reg [.o (.bin 193 .add (sl 146) (ci 1)),
 .o (.move 146 (sl 193))])))))))))))
 ((.seq (.reg [.o (.move 194 (sl 19)),
 .o (.move 8 (sl 194))])
 (.ret))))))))))))
theorem fun___impl_responder__respond_h {rin : List T} {args : List A} {Q : List T → T → Prop} (ha : args.length ≤ 195) (h : cW Try.prog 195 c___impl_responder__respond_h (retP Try.prog [.tmp 8] rin.length Q) (St.of (enum 0 args) (enum 1000000000 rin))) :
    Fun Try.prog 182 rin args Q :=
  Fun.of (H := ⟨[], [24, 25, 36]⟩) Try.func182 rfl rfl rfl (by kernel_rfl) ha (by decide) h

def c_spec_l24Visit_h : CC :=
 (.seq (.reg [.o (.move 10 (ci 0))])
 ((.seq (.reg [.o (.move 26 (sl 0)),
 .o (.nilc 27 (sl 26)),
 .o (.fld 28 0 (sl 27)),
 .o (.fld 29 0 (sl 28)),
 .o (.fld 30 0 (sl 29)),
 .o (.load1 31 (sl 30)),
 .o (.move 32 (sl 1)),
 .o (.idx 33 5 (sl 31) (sl 32)),
 .o (.loadN 34 5 (sl 33)),
 .o (.alloc 11 [.v (.int .i64 0), .v (.int .i64 0), .v (.int .i64 0), .v (.int .i64 0), .v (.slice none 0 0)]),
 .o (.store 5 (sl 11) (sl 34))])
 ((.seq (.seq (.reg [.o (.fld 35 0 (sl 11)),
 .o (.load1 36 (sl 35))])
 ((.block 0 (.seq (.reg [.o (.bin 38 .eql (sl 36) (ci 2)),
 .o (.move 37 (sl 38))])
 ((.cond (sl 37) (.seq (.reg [.o (.move 12 (ci 0))])
 ((.seq (.seq (.reg [.o (.move 13 (ci 0))])
 ((.block 1 (.loop (.seq (.seq (.reg [.o (.move 39 (sl 13)),
 .o (.move 40 (sl 3)),
 .o (.lenS 41 (sl 40)),
 .o (.bin 42 .lss (sl 39) (sl 41))])
 ((.cond (sl 42) .skip
 (.exit 1))))
 ((.seq (.block 2 (.seq (.reg [.o (.move 46 (sl 0)),
 .o (.move 47 (sl 2)),
 .o (.move 48 (sl 13)),
 .o (.call (some 49) (cf 188) [(sl 46), (sl 47), (sl 48)]),
 .o (.move 45 (sl 49)),
 .o (.extract 50 (sl 45) 0),
 .o (.extract 51 (sl 45) 1),
 .o (.move 14 (sl 50)),
 .o (.move 15 (sl 51))])
 ((.seq (.reg [.o (.move 52 (sl 0)),
 .o (.nilc 53 (sl 52)),
 .o (.fld 54 0 (sl 53)),
 .o (.loadN 55 3 (sl 54)),
 .o (.move 56 (sl 1)),
 .o (.move 57 (sl 14)),
 .o (.move 58 (sl 15)),
 .o (.call (some 59) (cf 215) [(sl 55), (sl 56), (sl 57), (sl 58)]),
 .o (.move 16 (sl 59))])
 ((.seq (.seq (.reg [.o (.move 60 (sl 0)),
 .o (.nilc 61 (sl 60)),
 .o (.fld 62 3 (sl 61)),
 .o (.load1 63 (sl 62)),
 .o (.bin 64 .eql (sl 63) (ci 1))])
 ((.cond (sl 64) (.reg [.o (.move 65 (sl 16)),
 .o (.un 66 .neg (sl 65)),
 .o (.move 16 (sl 66))])
 .skip)))
 ((.draw [] [(kR, .o (.move 67 (sl 12))),
 (kR, .o (.move 68 (sl 3))),
 (kR, .o (.move 69 (sl 13))),
 (kR, .o (.idx 70 1 (sl 68) (sl 69))),
 (kR, .o (.load1 71 (sl 70))),
 (kR, .o (.move 72 (sl 16))),
 (kR, .o (.bin 73 .mul (sl 71) (sl 72))),
 (kR, .o (.move 74 (sl 4))),
 (kR, .o (.call (some 75) (cf 157) [(sl 74)])),
 (kR, .o (.bin 76 .mul (sl 73) (sl 75))),
 (kR, .o (.bin 77 .add (sl 67) (sl 76))),
 (kR, .o (.move 12 (sl 77)))]))))))))
 ((.reg [.o (.move 43 (sl 13)),
 .o (.bin 44 .add (sl 43) (ci 1)),
 .o (.move 13 (sl 44))])))))))))
 ((.seq (.reg [.o (.move 78 (sl 12)),
 .o (.move 10 (sl 78))])
 (.ret))))))
 (.seq (.reg [.o (.move 80 (sl 0)),
 .o (.nilc 81 (sl 80)),
 .o (.fld 82 3 (sl 81)),
 .o (.load1 83 (sl 82)),
 .o (.bin 84 .eql (sl 36) (sl 83)),
 .o (.move 79 (sl 84))])
 ((.cond (sl 79) (.seq (.reg [.o (.move 17 (ci 0)),
 .o (.move 18 (ci 0))])
 ((.seq (.seq (.reg [.o (.move 19 (ci 0))])
 ((.block 3 (.loop (.seq (.seq (.reg [.o (.move 85 (sl 19)),
 .o (.fld 86 4 (sl 11)),
 .o (.load1 87 (sl 86)),
 .o (.lenS 88 (sl 87)),
 .o (.bin 89 .lss (sl 85) (sl 88))])
 ((.cond (sl 89) .skip
 (.exit 3))))
 ((.seq (.block 4 (.seq (.reg [.o (.move 92 (sl 0)),
 .o (.fld 93 4 (sl 11)),
 .o (.load1 94 (sl 93)),
 .o (.move 95 (sl 19)),
 .o (.idx 96 1 (sl 94) (sl 95)),
 .o (.load1 97 (sl 96)),
 .o (.move 98 (sl 2)),
 .o (.move 99 (sl 3)),
 .o (.move 100 (sl 4)),
 .o (.call (some 101) (cf 189) [(sl 92), (sl 97), (sl 98), (sl 99), (sl 100)]),
 .o (.move 20 (sl 101))])
 ((.seq (.reg [.o (.move 102 (sl 19)),
 .o (.bin 103 .eql (sl 102) (ci 0)),
 .o (.move 104 (sl 103)),
 .g 104 false (some 105) (.move 105 (sl 20)),
 .g 104 false (some 106) (.move 106 (sl 18)),
 .g 104 false (some 107) (.bin 107 .gtr (sl 105) (sl 106)),
 .o (.pick 108 (sl 104) (cb true) (sl 107))])
 ((.cond (sl 108) (.reg [.o (.move 109 (sl 19)),
 .o (.move 110 (sl 20)),
 .o (.move 17 (sl 109)),
 .o (.move 18 (sl 110))])
 .skip))))))
 ((.reg [.o (.move 90 (sl 19)),
 .o (.bin 91 .add (sl 90) (ci 1)),
 .o (.move 19 (sl 91))])))))))))
 ((.seq (.reg [.o (.fld 111 4 (sl 11)),
 .o (.load1 112 (sl 111)),
 .o (.lenS 113 (sl 112)),
 .o (.make 114 [.v (.int .i64 0)] 8 (sl 113) (sl 113)),
 .o (.move 21 (sl 114))])
 ((.seq (.reg [.o (.move 115 (sl 21)),
 .o (.move 116 (sl 17)),
 .o (.idx 117 1 (sl 115) (sl 116)),
 .o (.store 1 (sl 117) (ci 60))])
 ((.seq (.weak (.draw [] [(kR, .o (.move 118 (sl 0))),
 (kR, .o (.nilc 119 (sl 118))),
 (kR, .o (.fld 120 6 (sl 119))),
 (kR, .o (.load1 121 (sl 120))),
 (kR, .o (.move 122 (sl 0))),
 (kR, .o (.nilc 123 (sl 122))),
 (kR, .o (.fld 124 0 (sl 123))),
 (kR, .o (.loadN 125 3 (sl 124))),
 (kR, .o (.move 126 (sl 0))),
 (kR, .o (.nilc 127 (sl 126))),
 (kR, .o (.fld 128 3 (sl 127))),
 (kR, .o (.load1 129 (sl 128))),
 (kR, .o (.move 130 (sl 1))),
 (kR, .o (.move 131 (sl 2))),
 (kR, .o (.call (some 132) (cf 221) [(sl 125), (sl 129), (sl 130), (sl 131)])),
 (kR, .o (.move 133 (sl 21))),
 (kR, .o (.idx 134 1 (sl 121) (sl 132))),
 (kH, .o (.store 1 (sl 134) (sl 133)))]))
 ((.seq (.weak (.reg [.o (.move 135 (sl 18)),
 .o (.move 10 (sl 135))]))
 (.ret))))))))))))
 .skip)))))))))
 ((.seq (.reg [.o (.move 22 (ci 0))])
 ((.seq (.seq (.reg [.o (.move 23 (ci 0))])
 ((.block 5 (.loop (.seq (.seq (.reg [.o (.move 136 (sl 23)),
 .o (.fld 137 4 (sl 11)),
 .o (.load1 138 (sl 137)),
 .o (.lenS 139 (sl 138)),
 .o (.bin 140 .lss (sl 136) (sl 139))])
 ((.cond (sl 140) .skip
 (.exit 5))))
 ((.seq (.block 6 (.seq (.reg [.o (.bslice 143 1 0 []),
 .o (.move 24 (sl 143))])
 ((.seq (.seq (.reg [.o (.move 25 (ci 0))])
 ((.block 7 (.loop (.seq (.seq (.reg [.o (.move 144 (sl 25)),
 .o (.move 145 (sl 3)),
 .o (.lenS 146 (sl 145)),
 .o (.bin 147 .lss (sl 144) (sl 146))])
 ((.cond (sl 147) .skip
 (.exit 7))))
 ((.seq (.block 8 (.draw [178] [(kR, .o (.move 150 (sl 24))),
 (kR, .o (.move 151 (sl 3))),
 (kR, .o (.move 152 (sl 25))),
 (kR, .o (.idx 153 1 (sl 151) (sl 152))),
 (kR, .o (.load1 154 (sl 153))),
 (kR, .o (.move 155 (sl 0))),
 (kR, .o (.nilc 156 (sl 155))),
 (kR, .o (.fld 157 4 (sl 156))),
 (kR, .o (.fld 158 1 (sl 157))),
 (kR, .o (.load1 159 (sl 158))),
 (kR, .o (.move 160 (sl 0))),
 (kR, .o (.nilc 161 (sl 160))),
 (kR, .o (.fld 162 0 (sl 161))),
 (kR, .o (.loadN 163 3 (sl 162))),
 (kR, .o (.move 164 (sl 0))),
 (kR, .o (.nilc 165 (sl 164))),
 (kR, .o (.fld 166 3 (sl 165))),
 (kR, .o (.load1 167 (sl 166))),
 (kR, .o (.bin 168 .sub (ci 1) (sl 167))),
 (kR, .o (.move 169 (sl 1))),
 (kR, .o (.move 170 (sl 25))),
 (kR, .o (.call (some 171) (cf 221) [(sl 163), (sl 168), (sl 169), (sl 170)])),
 (kR, .o (.idx 172 1 (sl 159) (sl 171))),
 (kR, .o (.load1 173 (sl 172))),
 (kR, .o (.move 174 (sl 23))),
 (kR, .o (.idx 175 1 (sl 173) (sl 174))),
 (kR, .o (.load1 176 (sl 175))),
 (kR, .o (.bin 177 .mul (sl 154) (sl 176))),
 (kN, .o (.bslice 178 1 1 [(0, (sl 177))])),
 (kH, .o (.app 179 1 8 (sl 150) (sl 178))),
 (kR, .o (.move 24 (sl 179)))]))
 ((.reg [.o (.move 148 (sl 25)),
 .o (.bin 149 .add (sl 148) (ci 1)),
 .o (.move 25 (sl 149))])))))))))
 ((.weak (.reg [.o (.move 180 (sl 22)),
 .o (.move 181 (sl 0)),
 .o (.fld 182 4 (sl 11)),
 .o (.load1 183 (sl 182)),
 .o (.move 184 (sl 23)),
 .o (.idx 185 1 (sl 183) (sl 184)),
 .o (.load1 186 (sl 185)),
 .o (.move 187 (sl 2)),
 .o (.move 188 (sl 24)),
 .o (.move 189 (sl 4)),
 .o (.bin 190 .sub (sl 189) (ci 1)),
 .o (.call (some 191) (cf 189) [(sl 181), (sl 186), (sl 187), (sl 188), (sl 190)]),
 .o (.bin 192 .add (sl 180) (sl 191)),
 .o (.move 22 (sl 192))])))))))
 ((.reg [.o (.move 141 (sl 23)),
 .o (.bin 142 .add (sl 141) (ci 1)),
 .o (.move 23 (sl 142))])))))))))
 ((.seq (.reg [.o (.move 193 (sl 22)),
 .o (.move 10 (sl 193))])
 (.ret))))))))))))
theorem fun_spec_l24Visit_h {rin : List T} {args : List A} {Q : List T → T → Prop} (ha : args.length ≤ 194) (h : cW Try.prog 194 c_spec_l24Visit_h (retP Try.prog [.tmp 10] rin.length Q) (St.of (enum 0 args) (enum 1000000000 rin))) :
    Fun Try.prog 189 rin args Q :=
  Fun.of (H := ⟨[], [25, 35]⟩) Try.func189 rfl rfl rfl (by kernel_rfl) ha (by decide) h

end Go.Ab

/- Contracts: best responses, the reference's. -/
set_option linter.unusedSimpArgs false
set_option linter.unusedVariables false
namespace Go.Ab
open Go.Proofs

def srch (g : Gm) (ot : List (List Int)) (pl : Int) (B : List (List Int)) : T := .box [nodes g.nd, rows g.w, rows g.v, .i pl, .i (1 - pl), rows ot, rowsO B]
def fstC (pl a b : Int) : Int := if pl = 0 then a else b
def capOK (reach : List Int) (p : Nat) : Prop := sumI reach * pw p ≤ 41990400000
def capV : Int := 4199040000000
theorem sumI_mem_le : ∀ {l : List Int}, (∀ x ∈ l, 0 ≤ x) → ∀ x ∈ l, x ≤ sumI l
  | [], _, x, h => by simp at h
  | y :: l, h0, x, h => by
    have h1 := sumI_nonneg (l := l) fun z hz => h0 z (by simp [hz])
    have h2 := h0 y (by simp)
    rw [sumI]
    rcases List.mem_cons.1 h with rfl | h
    · omega
    · have := sumI_mem_le (l := l) (fun z hz => h0 z (by simp [hz])) x h; omega
def payF (g : Gm) (pl : Int) (i own c : Nat) : Int := if pl = 0 then pay g i own c else pay g i c own
theorem payP_F (g : Gm) (pl : Int) (i own c : Nat) : payP g pl i own c = if pl = 0 then payF g pl i own c else -payF g pl i own c := by
  unfold payP payF; split <;> rfl
theorem reach_pos {reach : List Int} (h0 : ∀ x ∈ reach, 0 ≤ x) (c : Nat) : 0 ≤ reach.getD c 0 ∧ reach.getD c 0 ≤ sumI reach := by
  rw [List.getD_eq_getElem?_getD]
  cases h : reach[c]? with
  | none => exact ⟨by simp, by simpa using sumI_nonneg h0⟩
  | some y => exact ⟨h0 y (List.mem_of_getElem? h), sumI_mem_le h0 y (List.mem_of_getElem? h)⟩
theorem term_abs {reach : List Int} {p : Nat} (h0 : ∀ x ∈ reach, 0 ≤ x) (hc : capOK reach p) {c : Nat} {y : Int} (h1 : -100 ≤ y) (h2 : y ≤ 100) : (-capV ≤ reach.getD c 0 * y * pw p ∧ reach.getD c 0 * y * pw p ≤ capV) ∧ (-4199040000000 ≤ reach.getD c 0 * y ∧ reach.getD c 0 * y ≤ 4199040000000) := by
  obtain ⟨r1, r2⟩ := reach_pos h0 c
  have hp := pw_pos p
  obtain ⟨m1, m2⟩ := mul_abs r1 h1 h2
  have k1 := Int.mul_le_mul_of_nonneg_right m1 (Int.le_of_lt hp)
  have k2 := Int.mul_le_mul_of_nonneg_right m2 (Int.le_of_lt hp)
  have k3 := Int.mul_le_mul_of_nonneg_right r2 (Int.le_of_lt hp)
  have k4 : reach.getD c 0 ≤ reach.getD c 0 * pw p := by
    have := Int.mul_le_mul_of_nonneg_left (show (1 : Int) ≤ pw p by omega) r1
    omega
  rw [Int.neg_mul, Int.mul_assoc 100] at k1
  rw [Int.mul_assoc 100] at k2
  unfold capOK at hc
  unfold capV
  refine ⟨⟨by omega, by omega⟩, by omega, by omega⟩
def cntA (vs : List Int) (k : Nat) : Int := if k = 0 then 0 else vs.getD (argmax.go k vs) 0
theorem go_take {vs : List Int} {k : Nat} {n : Int} (h : vs[k]? = some n) : argmax.go (k + 1) vs = (if k = 0 ∨ n > cntA vs k then k else argmax.go k vs) ∧ cntA vs (k + 1) = (if k = 0 ∨ n > cntA vs k then n else cntA vs k) := by
  have hd : vs.getD k 0 = n := by rw [List.getD_eq_getElem?_getD, h]; rfl
  unfold cntA
  rw [argmax_go_succ, hd]
  by_cases h0 : k = 0
  · subst h0; simp [hd]; rw [List.getD_eq_getElem?_getD] at hd; exact hd
  · rw [if_neg h0, if_neg h0, if_neg (by omega : ¬ k + 1 = 0)]
    by_cases h1 : vs.getD (argmax.go k vs) 0 < n
    · rw [if_pos h1, if_pos (.inr h1), if_pos (.inr h1)]; exact ⟨rfl, hd⟩
    · rw [if_neg h1, if_neg (by rintro (h | h); exact h0 h; exact h1 h), if_neg (by rintro (h | h); exact h0 h; exact h1 h)]; exact ⟨rfl, rfl⟩
theorem foldl_snoc {α β : Type} (F : β → α → β) (l : List α) (b : β) {k : Nat} {c : α} (h : l[k]? = some c) : (l.take (k + 1)).foldl F b = F ((l.take k).foldl F b) c := by
  rw [take_snoc h, List.foldl_append]; rfl
def tS (g : Gm) (pl : Int) (i own : Nat) (reach : List Int) (p k : Nat) : Int := sumI ((List.range k).map fun c => reach.getD c 0 * payP g pl i own c) * pw p
theorem tS_succ (g : Gm) (pl : Int) (i own : Nat) (reach : List Int) (p k : Nat) : tS g pl i own reach p (k + 1) = tS g pl i own reach p k + reach.getD k 0 * payP g pl i own k * pw p := by
  unfold tS
  rw [List.range_succ, List.map_append, List.map_cons, List.map_nil, sumI_snoc, Int.add_mul]
theorem tS_abs {g : Gm} {pl : Int} {i own : Nat} {reach : List Int} {p : Nat} (hp : payOK g) (h0 : ∀ x ∈ reach, 0 ≤ x) (hc : capOK reach p) : ∀ k, -(k * capV) ≤ tS g pl i own reach p k ∧ tS g pl i own reach p k ≤ k * capV
  | 0 => by simp [tS, sumI]
  | k + 1 => by
    have ih := tS_abs (pl := pl) (i := i) (own := own) hp h0 hc k
    obtain ⟨h1, h2⟩ := payP_abs hp pl i own k
    have h3 := (term_abs h0 hc (c := k) h1 h2).1
    rw [tS_succ]
    have e : ((k + 1 : Nat) : Int) * capV = k * capV + capV := by rw [Int.natCast_add, Int.add_mul]; simp
    omega
theorem capOK_next {g : Gm} {ot : List (List Int)} {pl : Int} (hot : partsOK g ot (1 - pl)) {i : Nat} {reach : List Int} (hi : i < g.nd.length) (hr : reach.length = g.w.length) (hp : (g.nd.getD i nd0).p = 1 - pl) (h0 : ∀ x ∈ reach, 0 ≤ x) {p : Nat} (hc : capOK reach (p + 1)) {k : Nat} (hk : k < (g.nd.getD i nd0).ch.length) : capOK (nextR g ot pl i reach k) p := by
  have hs := nextR_sum hot hi hr hp
  have hle : sumI (nextR g ot pl i reach k) ≤ 60 * sumI reach := by
    rw [← hs]
    refine sumI_mem_le (fun x hx => ?_) _ (List.mem_map.2 ⟨k, List.mem_range.2 hk, rfl⟩)
    obtain ⟨k', _, rfl⟩ := List.mem_map.1 hx
    exact sumI_nonneg (nextR_nonneg hot hi hr hp h0 k')
  have h1 := Int.mul_le_mul_of_nonneg_right hle (Int.le_of_lt (pw_pos p))
  unfold capOK at hc ⊢
  rw [pw_succ, ← Int.mul_assoc, Int.mul_comm (sumI reach) 60] at hc
  omega
theorem sumI_range_abs {G : Nat → Int} {c : Int} : ∀ {n : Nat}, (∀ k, k < n → -c ≤ G k ∧ G k ≤ c) → -(n * c) ≤ sumI ((List.range n).map G) ∧ sumI ((List.range n).map G) ≤ n * c
  | 0, _ => by simp [sumI]
  | n + 1, h => by
    have ih := sumI_range_abs (n := n) fun k hk => h k (by omega)
    have h1 := h n (by omega)
    rw [List.range_succ, List.map_append, List.map_cons, List.map_nil, sumI_snoc]
    have e : ((n + 1 : Nat) : Int) * c = n * c + c := by rw [Int.natCast_add, Int.add_mul]; simp
    omega
theorem bestV_cap {g : Gm} {ot : List (List Int)} {pl : Int} {own : Nat} (hnd : ndsOK g.nd) (hpl : pl = 0 ∨ pl = 1) (hot : partsOK g ot (1 - pl)) {f i : Nat} {reach : List Int} {p : Nat} (hi : i < g.nd.length) (hr : reach.length = g.w.length) (h0 : ∀ x ∈ reach, 0 ≤ x) (hd : dep g.nd f i ≤ p) (hc : capOK reach p) : -capV ≤ bestV g ot pl own f i reach p ∧ bestV g ot pl own f i reach p ≤ capV := by
  have h := bestV_abs (own := own) hnd hpl hot (payOK_of hnd) f i reach p hi hr h0 hd
  rw [Int.mul_assoc] at h
  unfold capOK at hc
  unfold capV
  omega
def nilO (r : Nat) (K : A → Prop) : Root → Prop
  | .live (.box _) _ => K (.own r)
  | _ => False
theorem nilCheckW_own {r : Nat} {S : St} {K : A → Prop} : nilCheckW (.own r) S K = nilO r K (S.roots r) := by
  show (match S.roots r with | .live (.box _) _ => K (.own r) | _ => False) = _
  cases S.roots r with
  | live t lk => cases t <;> rfl
  | _ => rfl
theorem nilCheckW_ptr {r off : Nat} {S : St} {K : A → Prop} : nilCheckW (.ptr r off) S K = K (.ptr r off) := rfl
theorem nilCheckW_pin {l : List T} {off : Nat} {S : St} {K : A → Prop} : nilCheckW (.t (.pin l off)) S K = K (.t (.pin l off)) := rfl
attribute [go_sem] nilCheckW_own nilCheckW_ptr nilCheckW_pin nilO
section
attribute [-go_sem] load1C load1V fldC lenC idxC loadNV nilCheckW
theorem spec_l24Deal_ok (g : Gm) (ot B : List (List Int)) (pl a b : Int) : Fun Try.prog 188 [srch g ot pl B] [.own 1000000000, .t (.i a), .t (.i b)] fun o r => o = [srch g ot pl B] ∧ r = .tup [.i (fstC pl a b), .i (fstC pl b a)] := by
  refine fun_spec_l24Deal (by simp) ?_
  simp -implicitDefEqProofs only [go_sem, evR, ints, rows, rat, rats, c_spec_l24Deal, srch]
  refine ⟨fun h => ?_, fun h => ?_⟩
  · have h : pl = 0 := by simpa using h
    rw [fstC, fstC, if_pos h, if_pos h]
  · have h : ¬ pl = 0 := by simpa using h
    rw [fstC, fstC, if_neg h, if_neg h]
theorem l24Deal_t (g : Gm) (ot B : List (List Int)) (pl a b : Int) : Fun Try.prog 188 [.box [.sh 5 (chunk nodeC g.nd), .sh 1 (g.w.map ints), .sh 1 (g.v.map ints), .i pl, .i (1 - pl), .sh 1 (ot.map ints), rowsO B]] [.own 1000000000, .t (.i a), .t (.i b)] fun o r => o = [.box [.sh 5 (chunk nodeC g.nd), .sh 1 (g.w.map ints), .sh 1 (g.v.map ints), .i pl, .i (1 - pl), .sh 1 (ot.map ints), rowsO B]] ∧ r = .tup [.i (fstC pl a b), .i (fstC pl b a)] := spec_l24Deal_ok g ot B pl a b
theorem spec_payF {g : Gm} (hg : isGameB g = true) (pl : Int) {i own c : Nat} (hi : i < g.nd.length) (ha : own < g.w.length) (hb : c < g.w.length) : Pure Try.prog 215 [.agg [.sh 5 (chunk nodeC g.nd), .sh 1 (g.w.map ints), .sh 1 (g.v.map ints)], .i i, .i (fstC pl own c), .i (fstC pl c own)] (.i (payF g pl i own c)) := by
  unfold fstC payF
  by_cases h : pl = 0
  · rw [if_pos h, if_pos h, if_pos h]; exact spec_l21Payoff_ok g hg i own c hi ha hb
  · rw [if_neg h, if_neg h, if_neg h]; exact spec_l21Payoff_ok g hg i c own hi hb ha
theorem l23Set_t {g : Gm} (hg : isGameB g = true) {pl : Int} {i c : Nat} (hi : i < g.nd.length) (hp : (g.nd.getD i nd0).p = pl) (hc : c < g.w.length) : Pure Try.prog 221 [.agg [.sh 5 (chunk nodeC g.nd), .sh 1 (g.w.map ints), .sh 1 (g.v.map ints)], .i pl, .i i, .i c] (.i (setI g pl i c)) := spec_l23Set_ok g hg pl i c hi hp hc
set_option maxRecDepth 20000 in
theorem spec_l24Visit_ok {g : Gm} {ot : List (List Int)} {pl : Int} {own : Nat} (hg : isGameB g = true) (hpl : pl = 0 ∨ pl = 1) (hot : partsOK g ot (1 - pl)) (hown : own < g.w.length) : ∀ (f i : Nat) (reach : List Int) (p : Nat) (B : List (List Int)), g.nd.length ≤ i + f → i < g.nd.length → reach.length = g.w.length → (∀ x ∈ reach, 0 ≤ x) → dep g.nd f i ≤ p → p ≤ 5 → capOK reach p → rows4 (sets g pl).length B →
    Fun Try.prog 189 [srch g ot pl B] [.own 1000000000, .t (.i i), .t (.i own), .t (ints reach), .t (.i p)] fun o r => o = [srch g ot pl (bestB g ot pl own f i reach p B)] ∧ r = .i (bestV g ot pl own f i reach p) := by
  obtain ⟨p1, p2, p3, p4, p5⟩ := isGameB_parts hg
  obtain ⟨t1, t2, t3, t4⟩ := isTreeB_spec p1
  have hpay := payOK_of t2
  intro f
  induction f with
  | zero => intro i reach p B h1 h2; omega
  | succ f ih =>
    intro i reach p B hf hi hrl hr0 hdp hp5 hcap hBl
    obtain ⟨x, hx⟩ : ∃ x, g.nd[i]? = some x := ⟨_, List.getElem?_eq_getElem hi⟩
    have hxd : g.nd.getD i nd0 = x := by rw [List.getD_eq_getElem?_getD, hx]; rfl
    have hxl := (ndOK_fields (t2 _ _ hx)).2.2.2.2.2
    have hB2 : x.p = 2 → bestB g ot pl own (f + 1) i reach p B = B := fun h => by rw [bestB]; simp only [hxd]; rw [if_pos h]
    have hV2 : x.p = 2 → bestV g ot pl own (f + 1) i reach p = tS g pl i own reach p reach.length := fun h => by rw [bestV]; simp only [hxd]; rw [if_pos h]; rfl
    have hB1 : x.p ≠ 2 → x.p = pl → bestB g ot pl own (f + 1) i reach p B = (x.ch.foldl (fun B c => bestB g ot pl own f c.toNat reach p B) B).set (setI g pl i own) ((List.replicate x.ch.length 0).set (argmax (x.ch.map fun c => bestV g ot pl own f c.toNat reach p)) 60) := fun h h' => by rw [bestB]; simp only [hxd]; rw [if_neg h, if_pos h']
    have hV1 : x.p ≠ 2 → x.p = pl → bestV g ot pl own (f + 1) i reach p = (x.ch.map fun c => bestV g ot pl own f c.toNat reach p).getD (argmax (x.ch.map fun c => bestV g ot pl own f c.toNat reach p)) 0 := fun h h' => by rw [bestV]; simp only [hxd]; rw [if_neg h, if_pos h']
    have hB0 : x.p ≠ 2 → x.p ≠ pl → bestB g ot pl own (f + 1) i reach p B = (List.range x.ch.length).foldl (fun B k => bestB g ot pl own f (x.ch.getD k 0).toNat (nextR g ot pl i reach k) (p - 1) B) B := fun h h' => by rw [bestB]; simp only [hxd]; rw [if_neg h, if_neg h']
    have hV0 : x.p ≠ 2 → x.p ≠ pl → bestV g ot pl own (f + 1) i reach p = sumI ((List.range x.ch.length).map fun k => bestV g ot pl own f (x.ch.getD k 0).toNat (nextR g ot pl i reach k) (p - 1)) := fun h h' => by rw [bestV]; simp only [hxd]; rw [if_neg h, if_neg h']
    generalize bestB g ot pl own (f + 1) i reach p B = B' at hB2 hB1 hB0 ⊢
    generalize bestV g ot pl own (f + 1) i reach p = V' at hV2 hV1 hV0 ⊢
    refine fun_spec_l24Visit_h (by simp) ?_
    simp -implicitDefEqProofs only [go_sem, evR, ints, rows, rat, rats, c_spec_l24Visit_h, srch, nodes, nd_at hx]
    refine ⟨by omega, by rw [nd_len]; omega, by rw [nd_len]; omega, fun h2 => ?_, fun h2 => ?_⟩
    · have h2 : x.p = 2 := by simpa using h2
      rw [hB2 h2, hV2 h2]
      refine SemC.loopR (σ := Nat) (fun k => St.of [(0, .own 1000000000), (1, .t (.i i)), (2, .t (.i own)), (3, .t (ints reach)), (4, .t (.i p)), (12, .t (.i (tS g pl i own reach p k))), (13, .t (.i k))] [(1000000000, srch g ot pl B)]) (fun k => k ≤ reach.length) (fun k => reach.length - k) 0 (Weak.of _ _ [some 1000000000] (by simp) (by simp) ?_ ?_) (by omega) fun k hk R hn hr he => ?_
      · simp -implicitDefEqProofs only [ints, rows, Nat.reduceBEq, wkR, Nat.reduceEqDiff, ↓reduceIte, wrR, show tS g pl i own reach p 0 = 0 by simp [tS, sumI]]
      · exact ⟨⟨_, rfl, .refl _⟩, rfl, trivial⟩
      · rcases Nat.lt_or_ge k reach.length with h9 | h9
        · simp -implicitDefEqProofs only [go_sem, evR, ints, rows, rat, rats, srch, nodes, decide_eq_true (show (k : Int) < (reach.length : Int) by omega)]
          refine CallW.ref (l24Deal_t g ot B pl own k) [1000000000] [] rfl Try.call188 (by simp) ?_ (by simp) ?_ (.inl rfl) ?_
          · simp -implicitDefEqProofs only [srR, Nat.reduceEqDiff, ↓reduceIte, ints, rows, intsO, rowsO]
          · simp -implicitDefEqProofs only [agR, Nat.reduceLeDiff, Nat.reduceSub, vaR, go_sem, ints, rows, rat, rats, ratsO, rtR, intsO, rowsO]
          simp -implicitDefEqProofs only [clR, Nat.reduceLeDiff, go_sem, evR, rat]
          obtain ⟨y, hy⟩ : ∃ y, reach[k]? = some y := ⟨_, List.getElem?_eq_getElem h9⟩
          have hyd : reach.getD k 0 = y := by rw [List.getD_eq_getElem?_getD, hy]; rfl
          obtain ⟨q1, q2⟩ := payP_abs hpay pl i own k
          obtain ⟨⟨m1, m2⟩, m3, m4⟩ := term_abs hr0 hcap (c := k) q1 q2
          have m5 := tS_abs (pl := pl) (i := i) (own := own) hpay hr0 hcap k
          have m6 := tS_succ g pl i own reach p k
          have m7 : (k : Int) * capV ≤ 6 * capV := Int.mul_le_mul_of_nonneg_right (by omega) (by decide)
          have hcv : capV = 4199040000000 := rfl
          have hPF := payP_F g pl i own k
          rw [hyd] at m1 m2 m3 m4 m6
          generalize hP : payP g pl i own k = P at q1 q2 m1 m2 m3 m4 m6 hPF
          refine CallW.pure (spec_payF (c := k) hg pl hi hown (by omega)) [] rfl Try.call215 ?_ (by first | trivial | simp [T.noSh, T.noShL, rat]) rfl ?_
          · simp -implicitDefEqProofs only [agR, Nat.reduceLeDiff, Nat.reduceSub, vaR, go_sem, ints, rows, rat, rats, ratsO, rtR, intsO, rowsO]
          simp -implicitDefEqProofs only [go_sem, evR, ints, rows, rat, rats, hy]
          have hw0 : pl = 1 → IntKind.i64.wrap (0 - payF g pl i own k) = P := fun h => by
            rw [if_neg (by omega)] at hPF
            rw [wrap64 (n := 0 - payF g pl i own k) (by omega) (by omega)]; omega
          have hw1 : pl ≠ 1 → payF g pl i own k = P := fun h => by
            rw [if_pos (by omega)] at hPF; exact hPF.symm
          refine ⟨fun h5 => ⟨by omega, by omega, by omega, ?_⟩, fun h5 => ⟨by omega, by omega, by omega, ?_⟩⟩
          · rw [hw0 (by simpa using h5)]
            refine CallV.pure (spec_l23Power_ok p (by omega)) [] rfl Try.call157 (fun e R' hR => ?_) (by first | trivial | simp [T.noSh, T.noShL, rat]) (fun _ => rfl) ?_
            · simp -implicitDefEqProofs only [agR, Nat.reduceLeDiff, Nat.reduceSub, vaR, go_sem, ints, rows, rat, rats, ratsO, rtR, intsO, rowsO]
            simp -implicitDefEqProofs only [go_sem, evR, ints, rows, rat, rats]
            refine hn _ (k + 1) (Weak.of _ _ [some 1000000000] (by simp) (by simp) ?_ ?_) (by omega) (by omega)
            · simp -implicitDefEqProofs only [ints, rows, Nat.reduceBEq, wkR, Nat.reduceEqDiff, ↓reduceIte, wrR, srch, nodes, next64 h9 (by omega), wrap64 (n := y * P) (by omega) (by omega), wrap64 (n := y * P * pw p) (by omega) (by omega), ← m6, wrap64 (n := tS g pl i own reach p (k + 1)) (by omega) (by omega)]
            · exact ⟨⟨_, rfl, .refl _⟩, rfl, trivial⟩
          · rw [hw1 (by simpa using h5)]
            refine CallV.pure (spec_l23Power_ok p (by omega)) [] rfl Try.call157 (fun e R' hR => ?_) (by first | trivial | simp [T.noSh, T.noShL, rat]) (fun _ => rfl) ?_
            · simp -implicitDefEqProofs only [agR, Nat.reduceLeDiff, Nat.reduceSub, vaR, go_sem, ints, rows, rat, rats, ratsO, rtR, intsO, rowsO]
            simp -implicitDefEqProofs only [go_sem, evR, ints, rows, rat, rats]
            refine hn _ (k + 1) (Weak.of _ _ [some 1000000000] (by simp) (by simp) ?_ ?_) (by omega) (by omega)
            · simp -implicitDefEqProofs only [ints, rows, Nat.reduceBEq, wkR, Nat.reduceEqDiff, ↓reduceIte, wrR, srch, nodes, next64 h9 (by omega), wrap64 (n := y * P) (by omega) (by omega), wrap64 (n := y * P * pw p) (by omega) (by omega), ← m6, wrap64 (n := tS g pl i own reach p (k + 1)) (by omega) (by omega)]
            · exact ⟨⟨_, rfl, .refl _⟩, rfl, trivial⟩
        · simp -implicitDefEqProofs only [go_sem, evR, ints, rows, rat, rats, srch, nodes, decide_eq_false (show ¬ (k : Int) < (reach.length : Int) by omega)]
          refine he _ _ ?_
          simp -implicitDefEqProofs only [go_sem, evR, ints, rows, rat, rats]
          rw [show k = reach.length by omega]
    have h2 : x.p ≠ 2 := by simpa using h2
    have hp2 : (g.nd.getD i nd0).p ≠ 2 := by rw [hxd]; exact h2
    obtain ⟨d1, d2⟩ := dep_child (f := f) hp2
    rw [hxd] at d2
    have hch := ndOK_child (t2 _ _ hx)
    refine ⟨fun h3 => ?_, fun h3 => ?_⟩
    · have h3 : x.p = pl := by simpa using h3
      generalize hF : (fun (B : List (List Int)) (c : Int) => bestB g ot pl own f c.toNat reach p B) = F at hB1
      generalize hvs : (x.ch.map fun c => bestV g ot pl own f c.toNat reach p) = vs at hB1 hV1
      have hvl : vs.length = x.ch.length := by rw [← hvs, List.length_map]
      rw [hB1 h2 h3, hV1 h2 h3]
      refine SemC.loopR (σ := Nat) (fun k => St.of [(0, .own 1000000000), (1, .t (.i i)), (2, .t (.i own)), (3, .t (ints reach)), (4, .t (.i p)), (11, .own 11), (17, .t (.i (argmax.go k vs))), (18, .t (.i (cntA vs k))), (19, .t (.i k))] [(11, .box [.i x.p, .i x.a, .i x.b, .i x.f, ints x.ch]), (1000000000, srch g ot pl ((x.ch.take k).foldl F B))]) (fun k => k ≤ x.ch.length) (fun k => x.ch.length - k) 0 (Weak.of _ _ [some 11, some 1000000000] (by simp) (by simp) ?_ ?_) (by omega) fun k hk R hn hr he => ?_
      · simp -implicitDefEqProofs only [ints, rows, Nat.reduceBEq, wkR, Nat.reduceEqDiff, ↓reduceIte, wrR, show cntA vs 0 = 0 from rfl, show argmax.go 0 vs = 0 from rfl]
      · exact ⟨⟨_, rfl, .refl _⟩, rfl, ⟨_, rfl, .refl _⟩, rfl, trivial⟩
      · rcases Nat.lt_or_ge k x.ch.length with h9 | h9
        · obtain ⟨c, hc⟩ : ∃ c, x.ch[k]? = some c := ⟨_, List.getElem?_eq_getElem h9⟩
          have hcm := List.mem_of_getElem? hc
          have hcb := hch c hcm
          have hcd := d2 c hcm
          have hrow : rows4 (sets g pl).length ((x.ch.take k).foldl F B) := by
            refine foldl_inv (rows4 (sets g pl).length) _ _ hBl fun B' c' _ hB' => ?_
            rw [← hF]; exact bestB_rows t2 f _ _ _ _ hB'
          have hcall := ih c.toNat reach p ((x.ch.take k).foldl F B) (by omega) (by omega) hrl hr0 (by omega) hp5 hcap hrow
          rw [show ((c.toNat : Nat) : Int) = c by omega, show bestB g ot pl own f c.toNat reach p ((x.ch.take k).foldl F B) = (x.ch.take (k + 1)).foldl F B by rw [foldl_snoc F x.ch B hc, ← hF]] at hcall
          have hvk : vs[k]? = some (bestV g ot pl own f c.toNat reach p) := by rw [← hvs, List.getElem?_map, hc]; rfl
          obtain ⟨g1, g2⟩ := go_take hvk
          generalize bestV g ot pl own f c.toNat reach p = n at hcall hvk g1 g2
          simp only [srch, nodes, rows, ints] at hcall
          simp -implicitDefEqProofs only [go_sem, evR, ints, rows, rat, rats, srch, nodes, hc, decide_eq_true (show (k : Int) < (x.ch.length : Int) by omega)]
          refine ⟨by omega, by omega, by omega, ?_⟩
          refine CallW.ref hcall [1000000000] [] rfl Try.call189 (by simp) ?_ (by simp) ?_ (.inl rfl) ?_
          · simp -implicitDefEqProofs only [srR, Nat.reduceEqDiff, ↓reduceIte, ints, rows, intsO, rowsO]
          · simp -implicitDefEqProofs only [agR, Nat.reduceLeDiff, Nat.reduceSub, vaR, go_sem, ints, rows, rat, rats, ratsO, rtR, intsO, rowsO]
          simp -implicitDefEqProofs only [clR, Nat.reduceLeDiff, go_sem, evR, rat]
          refine ⟨fun h0 => ⟨fun h1 => ?_, fun h1 => ?_⟩, fun h0 => ?_⟩
          · rw [if_pos (.inr h1)] at g1 g2
            refine hn _ (k + 1) (Weak.of _ _ [some 11, some 1000000000] (by simp) (by simp) ?_ ?_) (by omega) (by omega)
            · simp -implicitDefEqProofs only [ints, rows, Nat.reduceBEq, wkR, Nat.reduceEqDiff, ↓reduceIte, wrR, next64 h9 (by omega), g1, g2]
            · exact ⟨⟨_, rfl, .refl _⟩, rfl, ⟨_, rfl, .refl _⟩, rfl, trivial⟩
          · rw [if_neg (by rintro (h | h); (· rw [h] at h0; simp at h0); (· exact h1 h))] at g1 g2
            refine hn _ (k + 1) (Weak.of _ _ [some 11, some 1000000000] (by simp) (by simp) ?_ ?_) (by omega) (by omega)
            · simp -implicitDefEqProofs only [ints, rows, Nat.reduceBEq, wkR, Nat.reduceEqDiff, ↓reduceIte, wrR, next64 h9 (by omega), g1, g2]
            · exact ⟨⟨_, rfl, .refl _⟩, rfl, ⟨_, rfl, .refl _⟩, rfl, trivial⟩
          · rw [if_pos (.inl (by simpa using h0))] at g1 g2
            refine hn _ (k + 1) (Weak.of _ _ [some 11, some 1000000000] (by simp) (by simp) ?_ ?_) (by omega) (by omega)
            · simp -implicitDefEqProofs only [ints, rows, Nat.reduceBEq, wkR, Nat.reduceEqDiff, ↓reduceIte, wrR, next64 h9 (by omega), g1, g2]
            · exact ⟨⟨_, rfl, .refl _⟩, rfl, ⟨_, rfl, .refl _⟩, rfl, trivial⟩
        · simp -implicitDefEqProofs only [go_sem, evR, ints, rows, rat, rats, srch, nodes, decide_eq_false (show ¬ (k : Int) < (x.ch.length : Int) by omega)]
          refine he _ _ ?_
          simp -implicitDefEqProofs only [go_sem, evR, ints, rows, rat, rats, srch, nodes]
          have hke : k = x.ch.length := by omega
          have hcl1 : 1 ≤ x.ch.length := ((ndOK_fields (t2 _ _ hx)).2.2.2.2.1 h2).2
          have hgl := argmax_go_lt vs k (by omega)
          have hge : argmax.go k vs = argmax vs := by rw [argmax_eq, hvl, hke]
          rw [made_one, List.length_replicate]
          refine ⟨by omega, by omega, by omega, by omega, by omega, ?_⟩
          rw [show x.ch.take k = x.ch by rw [hke, List.take_length]]
          refine ⟨_, Weak.open 1000000000 6 500 rfl rfl rfl (by decide) rfl, ?_⟩
          simp -implicitDefEqProofs only [go_sem, evR, ints, rows, rat, rats, List.lookup_cons, beq_self_eq_true, Nat.reduceBEq]
          have hset := l23Set_t (pl := pl) hg hi (by rw [hxd]; exact h3) hown
          have hrowA : rows4 (sets g pl).length (x.ch.foldl F B) := by
            refine foldl_inv (rows4 (sets g pl).length) _ _ hBl fun B' c' _ hB' => ?_
            rw [← hF]; exact bestB_rows t2 f _ _ _ _ hB'
          have hslt := setI_lt (pl := pl) hi hown (by rw [hxd]; exact h3)
          have hrl1 := hrowA.1
          refine CallV.pure hset [] rfl Try.call221 (fun e R' hR => ?_) (by first | trivial | simp [T.noSh, T.noShL, rat]) (fun _ => rfl) ?_
          · simp -implicitDefEqProofs only [agR, Nat.reduceLeDiff, Nat.reduceSub, vaR, go_sem, ints, rows, rat, rats, ratsO, rtR, intsO, rowsO]
          simp -implicitDefEqProofs only [go_sem, evR, ints, rows, rat, rats, rowsO]
          refine ⟨by omega, by omega, by omega, ?_⟩
          refine ⟨_, Weak.join2 Try.prog tyOne (sl 120) (sl 121) rfl rfl rfl rfl (by decide) (by simp), ?_⟩
          simp -implicitDefEqProofs only [go_sem, evR, ints, rows, rat, rats]
          refine ⟨?_, ?_⟩
          · rw [List.map_set, intsO, List.map_set, List.map_replicate, hge]
          · rw [cntA, if_neg (by omega), hge]
    · have h3 : x.p ≠ pl := by simpa using h3
      have hpo : x.p = 1 - pl := by
        obtain ⟨⟨q1, q2⟩, _⟩ := ndOK_fields (t2 _ _ hx)
        omega
      have hpd : (g.nd.getD i nd0).p = 1 - pl := by rw [hxd]; exact hpo
      generalize hF : (fun (B : List (List Int)) (k : Nat) => bestB g ot pl own f (x.ch.getD k 0).toNat (nextR g ot pl i reach k) (p - 1) B) = F at hB0
      generalize hG : (fun k => bestV g ot pl own f (x.ch.getD k 0).toNat (nextR g ot pl i reach k) (p - 1)) = G at hV0
      rw [hB0 h2 h3, hV0 h2 h3]
      refine SemC.loopR (σ := Nat) (fun k => St.of [(0, .own 1000000000), (1, .t (.i i)), (2, .t (.i own)), (3, .t (ints reach)), (4, .t (.i p)), (11, .own 11), (22, .t (.i (sumI ((List.range k).map G)))), (23, .t (.i k))] [(11, .box [.i x.p, .i x.a, .i x.b, .i x.f, ints x.ch]), (1000000000, srch g ot pl ((List.range k).foldl F B))]) (fun k => k ≤ x.ch.length) (fun k => x.ch.length - k) 0 (Weak.of _ _ [some 11, some 1000000000] (by simp) (by simp) ?_ ?_) (by omega) fun k hk R hn hr he => ?_
      · simp -implicitDefEqProofs only [ints, rows, Nat.reduceBEq, wkR, Nat.reduceEqDiff, ↓reduceIte, wrR, List.range_zero, List.map_nil, show sumI [] = 0 from rfl]
      · exact ⟨⟨_, rfl, .refl _⟩, rfl, ⟨_, rfl, .refl _⟩, rfl, trivial⟩
      · rcases Nat.lt_or_ge k x.ch.length with h9 | h9
        · obtain ⟨c, hc⟩ : ∃ c, x.ch[k]? = some c := ⟨_, List.getElem?_eq_getElem h9⟩
          simp -implicitDefEqProofs only [go_sem, evR, ints, rows, rat, rats, srch, nodes, hc, decide_eq_true (show (k : Int) < (x.ch.length : Int) by omega)]
          have hnl : (nextR g ot pl i reach k).length = reach.length := nextR_length _ _ _ _ _ _
          refine SemC.loopR (σ := Nat) (fun b => St.of [(0, .own 1000000000), (1, .t (.i i)), (2, .t (.i own)), (3, .t (ints reach)), (4, .t (.i p)), (11, .own 11), (22, .t (.i (sumI ((List.range k).map G)))), (23, .t (.i k)), (24, .own 77), (25, .t (.i b))] [(11, .box [.i x.p, .i x.a, .i x.b, .i x.f, ints x.ch]), (77, .arr 1 (((nextR g ot pl i reach k).take b).map T.i)), (1000000000, srch g ot pl ((List.range k).foldl F B))]) (fun b => b ≤ reach.length) (fun b => reach.length - b) 0 (Weak.of _ _ [some 11, some 143, some 1000000000] (by simp) (by simp) ?_ ?_) (by omega) fun b hb R2 hn2 hr2 he2 => ?_
          · simp -implicitDefEqProofs only [ints, rows, Nat.reduceBEq, wkR, Nat.reduceEqDiff, ↓reduceIte, wrR, List.take_zero, srch, nodes]
          · exact ⟨⟨_, rfl, .refl _⟩, rfl, ⟨_, rfl, .refl _⟩, rfl, ⟨_, rfl, .refl _⟩, rfl, trivial⟩
          · rcases Nat.lt_or_ge b reach.length with h8 | h8
            · obtain ⟨y, hy⟩ : ∃ y, reach[b]? = some y := ⟨_, List.getElem?_eq_getElem h8⟩
              simp -implicitDefEqProofs only [go_sem, evR, ints, rows, rat, rats, srch, nodes, hy, decide_eq_true (show (b : Int) < (reach.length : Int) by omega)]
              obtain ⟨o1, o2, o3⟩ := hot i b hi (by omega) hpd
              obtain ⟨r, hr1⟩ : ∃ r, ot[setI g (1 - pl) i b]? = some r := by
                cases h : ot[setI g (1 - pl) i b]? with
                | some r => exact ⟨r, rfl⟩
                | none =>
                  rw [partsOf, List.getD_eq_getElem?_getD, h, hxd] at o1
                  simp at o1
                  omega
              have hrp : partsOf g ot (1 - pl) i b = r := by rw [partsOf, List.getD_eq_getElem?_getD, hr1]; rfl
              rw [hrp] at o1 o2
              rw [hxd] at o1
              obtain ⟨y2, hy2⟩ : ∃ y2, r[k]? = some y2 := ⟨_, List.getElem?_eq_getElem (by omega)⟩
              have hy2b := o2 y2 (List.mem_of_getElem? hy2)
              refine ⟨by omega, by omega, by omega, ?_⟩
              rw [wrap64 (n := 1 - pl) (by omega) (by omega)]
              refine CallV.pure (l23Set_t (pl := 1 - pl) (c := b) hg hi hpd (by omega)) [] rfl Try.call221 (fun e R' hR => ?_) (by first | trivial | simp [T.noSh, T.noShL, rat]) (fun _ => rfl) ?_
              · simp -implicitDefEqProofs only [agR, Nat.reduceLeDiff, Nat.reduceSub, vaR, go_sem, ints, rows, rat, rats, ratsO, rtR, intsO, rowsO]
              simp -implicitDefEqProofs only [go_sem, evR, ints, rows, rat, rats, hr1, hy2]
              have hslt := (List.getElem?_eq_some_iff.1 hr1).1
              have hyb : 0 ≤ y ∧ y ≤ 41990400000 := by
                have h1 := reach_pos hr0 b
                rw [List.getD_eq_getElem?_getD, hy] at h1
                have h2 := pw_pos p
                have h3 := sumI_nonneg hr0
                have h4 := Int.mul_le_mul_of_nonneg_left (show (1 : Int) ≤ pw p by omega) h3
                unfold capOK at hcap
                simp only [Option.getD_some] at h1
                omega
              have hm1 := Int.mul_nonneg hyb.1 hy2b.1
              have hm2 : y * y2 ≤ 41990400000 * 60 := Int.mul_le_mul hyb.2 hy2b.2 hy2b.1 (by decide)
              have hnx : (nextR g ot pl i reach k)[b]? = some (y * y2) := by
                rw [nextR, List.getElem?_map, List.getElem?_range (by omega), Option.map_some, hrp, List.getD_eq_getElem?_getD, hy, List.getD_eq_getElem?_getD, hy2]; rfl
              refine ⟨by omega, by omega, by omega, by omega, by omega, by omega, by rw [List.length_take]; omega, hn2 _ (b + 1) (Weak.of _ _ [some 11, some 179, some 1000000000] (by simp) (by simp) ?_ ?_) (by omega) (by omega)⟩
              · simp -implicitDefEqProofs only [ints, rows, Nat.reduceBEq, wkR, Nat.reduceEqDiff, ↓reduceIte, wrR, srch, nodes, next64 h8 (by omega)]
              · refine ⟨⟨_, rfl, .refl _⟩, rfl, ⟨_, rfl, ?_⟩, rfl, ⟨_, rfl, .refl _⟩, rfl, trivial⟩
                rw [take_snoc hnx, List.map_append, wrap64 (n := y * y2) (by omega) (by omega)]; exact .refl _
            · simp -implicitDefEqProofs only [go_sem, evR, ints, rows, rat, rats, srch, nodes, hc, decide_eq_false (show ¬ (b : Int) < (reach.length : Int) by omega)]
              refine he2 _ _ ?_
              simp -implicitDefEqProofs only [go_sem, evR, ints, rows, rat, rats, srch, nodes, hc]
              have hbl : b = reach.length := by omega
              have htk : (nextR g ot pl i reach k).take b = nextR g ot pl i reach k := List.take_of_length_le (by omega)
              rw [htk]
              refine ⟨_, Weak.trans (Weak.share 77 rfl) (Weak.of [(0, .own 1000000000), (1, .t (.i i)), (2, .t (.i own)), (3, .t (ints reach)), (4, .t (.i p)), (11, .own 11), (22, .t (.i (sumI ((List.range k).map G)))), (23, .t (.i k)), (24, .t (ints (nextR g ot pl i reach k)))] [(11, .box [.i x.p, .i x.a, .i x.b, .i x.f, ints x.ch]), (1000000000, srch g ot pl ((List.range k).foldl F B))] [some 11, some 1000000000] (by simp) (by simp) ?_ ?_), ?_⟩
              · simp -implicitDefEqProofs only [ints, rows, Nat.reduceBEq, wkR, Nat.reduceEqDiff, ↓reduceIte, wrR, shareA, srch, nodes, T.toSh, T.toShL_eq_map, List.map_map]
                exact .inr (.inl rfl)
              · exact ⟨⟨_, rfl, .refl _⟩, rfl, ⟨_, rfl, .refl _⟩, rfl, trivial⟩
              · simp -implicitDefEqProofs only [go_sem, evR, ints, rows, rat, rats, srch, nodes, hc]
                refine ⟨by omega, by omega, by omega, ?_⟩
                have hp1 : 1 ≤ p := by omega
                obtain ⟨p', rfl⟩ : ∃ p', p = p' + 1 := ⟨p - 1, by omega⟩
                have hcm := List.mem_of_getElem? hc
                have hcb := hch c hcm
                have hcd := d2 c hcm
                have hcd0 : x.ch.getD k 0 = c := by rw [List.getD_eq_getElem?_getD, hc]; rfl
                have hch1 : ∀ j, j < x.ch.length → -capV ≤ G j ∧ G j ≤ capV := fun j hj => by
                  have hmj := getD_mem (0 : Int) hj
                  have hjb := hch _ hmj
                  have hjd := d2 _ hmj
                  rw [← hG]
                  exact bestV_cap t2 hpl hot (by omega) (by rw [nextR_length]; exact hrl) (nextR_nonneg hot hi hrl hpd hr0 j) (by omega) (capOK_next hot hi hrl hpd hr0 hcap (by rw [hxd]; exact hj))
                have hs1 := sumI_range_abs (G := G) (c := capV) (n := k) fun j hj => hch1 j (by omega)
                have hs2 := hch1 k h9
                have hcv : capV = 4199040000000 := rfl
                have hk4 : (k : Int) * capV ≤ 4 * capV := Int.mul_le_mul_of_nonneg_right (by omega) (by decide)
                have hrow : rows4 (sets g pl).length ((List.range k).foldl F B) := by
                  refine foldl_inv (rows4 (sets g pl).length) _ _ hBl fun B' c' _ hB' => ?_
                  rw [← hF]; exact bestB_rows t2 f _ _ _ _ hB'
                have hcall := ih c.toNat (nextR g ot pl i reach k) p' ((List.range k).foldl F B) (by omega) (by omega) (by omega) (nextR_nonneg hot hi hrl hpd hr0 k) (by omega) (by omega) (capOK_next hot hi hrl hpd hr0 hcap (by rw [hxd]; omega)) hrow
                rw [show ((c.toNat : Nat) : Int) = c by omega, show bestB g ot pl own f c.toNat (nextR g ot pl i reach k) p' ((List.range k).foldl F B) = (List.range (k + 1)).foldl F B by rw [List.range_succ, List.foldl_append, ← hF, List.foldl_cons, List.foldl_nil]; simp only [hcd0, Nat.add_sub_cancel], show bestV g ot pl own f c.toNat (nextR g ot pl i reach k) p' = G k by rw [← hG]; simp only [hcd0, Nat.add_sub_cancel]] at hcall
                have hsg : sumI ((List.range (k + 1)).map G) = sumI ((List.range k).map G) + G k := by rw [List.range_succ, List.map_append, List.map_cons, List.map_nil, sumI_snoc]
                simp only [srch, nodes, rows, ints] at hcall
                rw [wrap64 (n := ((p' + 1 : Nat) : Int) - 1) (by omega) (by omega), show ((p' + 1 : Nat) : Int) - 1 = (p' : Int) by omega]
                refine CallW.ref hcall [1000000000] [] rfl Try.call189 (by simp) ?_ (by simp) ?_ (.inl rfl) ?_
                · simp -implicitDefEqProofs only [srR, Nat.reduceEqDiff, ↓reduceIte, ints, rows, intsO, rowsO]
                · simp -implicitDefEqProofs only [agR, Nat.reduceLeDiff, Nat.reduceSub, vaR, go_sem, ints, rows, rat, rats, ratsO, rtR, intsO, rowsO]
                simp -implicitDefEqProofs only [clR, Nat.reduceLeDiff, go_sem, evR, rat]
                refine hn _ (k + 1) (Weak.of _ _ [some 11, some 1000000000] (by simp) (by simp) ?_ ?_) (by omega) (by omega)
                · simp -implicitDefEqProofs only [ints, rows, Nat.reduceBEq, wkR, Nat.reduceEqDiff, ↓reduceIte, wrR, srch, nodes, next64 h9 (by omega), hsg, wrap64 (n := sumI ((List.range k).map G) + G k) (by omega) (by omega)]
                · refine ⟨⟨_, rfl, .refl _⟩, rfl, ⟨_, rfl, ?_⟩, rfl, trivial⟩
                  rw [List.range_succ]; exact .refl _
        · simp -implicitDefEqProofs only [go_sem, evR, ints, rows, rat, rats, srch, nodes, decide_eq_false (show ¬ (k : Int) < (x.ch.length : Int) by omega)]
          refine he _ _ ?_
          simp -implicitDefEqProofs only [go_sem, evR, ints, rows, rat, rats]
          rw [show k = x.ch.length by omega]
          exact ⟨rfl, rfl⟩
end
end Go.Ab

/- Games as data: no strategy does better than the best; bounds of the number of a game. -/
set_option linter.unusedSimpArgs false
set_option linter.unusedVariables false
namespace Go.Ab

def vP (g : Gm) (s t : List (List Int)) (pl : Int) (own c f i p : Nat) : Int := if pl = 0 then val g s t f i own c p else -val g s t f i c own p
def mineOf (pl : Int) (s t : List (List Int)) : List (List Int) := if pl = 0 then s else t
def otOf (pl : Int) (s t : List (List Int)) : List (List Int) := if pl = 0 then t else s
theorem zipW_sum (F : Int → Int → Int) : ∀ (l m : List Int), l.length = m.length → sumI (List.zipWith F l m) = sumI ((List.range m.length).map fun k => F (l.getD k 0) (m.getD k 0))
  | [], [], _ => rfl
  | x :: l, y :: m, h => by
    rw [List.zipWith_cons_cons, sumI, zipW_sum F l m (by simpa using h), List.length_cons, List.range_succ_eq_map, List.map_cons, List.map_map, sumI]
    rfl
theorem vP_end {g : Gm} {s t : List (List Int)} {pl : Int} {own c f i p : Nat} (h : (g.nd.getD i nd0).p = 2) : vP g s t pl own c (f + 1) i p = payP g pl i own c * pw p := by
  unfold vP payP
  split
  · rw [val]; (try simp only []); rw [if_pos h]
  · rw [val]; (try simp only []); rw [if_pos h, Int.neg_mul]
theorem sumI_neg {α : Type} (F : α → Int) (l : List α) : sumI (l.map fun x => -F x) = -sumI (l.map F) := by
  have := sumI_map_mul F (-1) l
  rw [Int.neg_one_mul] at this
  rw [← this]
  exact sumI_congr fun x _ => by rw [Int.neg_one_mul]
theorem vP_step {g : Gm} {s t : List (List Int)} {pl : Int} {own c f i p : Nat} (hnd : ndsOK g.nd) (hpl : pl = 0 ∨ pl = 1) (hi : i < g.nd.length) (h2 : (g.nd.getD i nd0).p ≠ 2) {q : List Int} (hq : q = if (g.nd.getD i nd0).p = pl then partsOf g (mineOf pl s t) pl i own else partsOf g (otOf pl s t) (1 - pl) i c) (hl : q.length = (g.nd.getD i nd0).ch.length) :
    vP g s t pl own c (f + 1) i p = sumI ((List.range (g.nd.getD i nd0).ch.length).map fun k => q.getD k 0 * vP g s t pl own c f ((g.nd.getD i nd0).ch.getD k 0).toNat (p - 1)) := by
  have hx : g.nd[i]? = some (g.nd.getD i nd0) := by rw [List.getD_eq_getElem?_getD, List.getElem?_eq_getElem hi]; rfl
  obtain ⟨⟨q1, q2⟩, _⟩ := ndOK_fields (hnd i _ hx)
  unfold vP
  rcases hpl with rfl | rfl
  · rw [if_pos rfl, val]
    (try simp only [])
    rw [if_neg h2]
    have e : (if (g.nd.getD i nd0).p = 0 then partsOf g s 0 i own else partsOf g t 1 i c) = q := by rw [hq]; rfl
    rw [e, zipW_sum _ _ _ hl]
    rfl
  · rw [if_neg (by decide), val]
    (try simp only [])
    rw [if_neg h2]
    have e : (if (g.nd.getD i nd0).p = 0 then partsOf g s 0 i c else partsOf g t 1 i own) = q := by
      rw [hq]
      by_cases h1 : (g.nd.getD i nd0).p = 1
      · rw [if_pos h1, if_neg (by omega)]; rfl
      · rw [if_neg h1, if_pos (by omega)]; rfl
    rw [e, zipW_sum _ _ _ hl, ← sumI_neg]
    refine sumI_congr fun k _ => ?_
    rw [if_neg (by decide), Int.mul_neg]
theorem argmax_go_max (l : List Int) : ∀ n k, k < n → l.getD k 0 ≤ l.getD (argmax.go n l) 0
  | 0, k, h => absurd h (by omega)
  | 1, k, h => by
    have : k = 0 := by omega
    subst this
    exact Int.le_refl _
  | n + 2, k, h => by
    rw [argmax_go_succ, if_neg (by omega)]
    have ih := argmax_go_max l (n + 1)
    split
    · rename_i h1
      by_cases hk : k = n + 1
      · rw [hk]; exact Int.le_refl _
      · have := ih k (by omega); omega
    · rename_i h1
      by_cases hk : k = n + 1
      · rw [hk]; omega
      · exact ih k (by omega)
theorem argmax_max {l : List Int} {k : Nat} (h : k < l.length) : l.getD k 0 ≤ l.getD (argmax l) 0 := by
  rw [argmax_eq]; exact argmax_go_max l _ k h
theorem sumI_le_sum {α : Type} {F G : α → Int} : ∀ {l : List α}, (∀ x ∈ l, F x ≤ G x) → sumI (l.map F) ≤ sumI (l.map G)
  | [], _ => Int.le_refl _
  | x :: l, h => by
    have h1 := h x (by simp)
    have h2 := sumI_le_sum (l := l) fun y hy => h y (by simp [hy])
    rw [List.map_cons, List.map_cons, sumI, sumI]; omega
theorem getD_mapI (F : Int → Int) {l : List Int} {k : Nat} (hk : k < l.length) : (l.map F).getD k 0 = F (l.getD k 0) := by
  rw [List.getD_eq_getElem?_getD, List.getElem?_map, List.getD_eq_getElem?_getD, List.getElem?_eq_getElem hk]; rfl
theorem best_ge {g : Gm} {s t : List (List Int)} {pl : Int} {own : Nat} (hnd : ndsOK g.nd) (hpl : pl = 0 ∨ pl = 1) (hm : partsOK g (mineOf pl s t) pl) (hot : partsOK g (otOf pl s t) (1 - pl)) (hown : own < g.w.length) : ∀ (f i : Nat) (reach : List Int) (p : Nat), i < g.nd.length → reach.length = g.w.length → (∀ x ∈ reach, 0 ≤ x) → dep g.nd f i ≤ p →
    sumI ((List.range reach.length).map fun c => reach.getD c 0 * vP g s t pl own c f i p) ≤ bestV g (otOf pl s t) pl own f i reach p
  | 0, i, reach, p, _, _, _, _ => by
    have : sumI ((List.range reach.length).map fun c => reach.getD c 0 * vP g s t pl own c 0 i p) = sumI ((List.range reach.length).map fun _ => 0) := sumI_congr fun c _ => by
      have : vP g s t pl own c 0 i p = 0 := by unfold vP val; split <;> rfl
      rw [this, Int.mul_zero]
    rw [this, sumI_zero, bestV]; exact Int.le_refl _
  | f + 1, i, reach, p, hi, hr, h0, hd => by
    rw [bestV]
    (try simp only [])
    have hx : g.nd[i]? = some (g.nd.getD i nd0) := by rw [List.getD_eq_getElem?_getD, List.getElem?_eq_getElem hi]; rfl
    have hch := ndOK_child (hnd i _ hx)
    obtain ⟨⟨q1, q2⟩, _⟩ := ndOK_fields (hnd i _ hx)
    have h0' : ∀ c, 0 ≤ reach.getD c 0 := fun c => by
      rw [List.getD_eq_getElem?_getD]
      cases hc : reach[c]? with
      | none => simp
      | some x => exact h0 x (List.mem_of_getElem? hc)
    by_cases h2 : (g.nd.getD i nd0).p = 2
    · rw [if_pos h2]
      have e : sumI ((List.range reach.length).map fun c => reach.getD c 0 * vP g s t pl own c (f + 1) i p) = sumI ((List.range reach.length).map fun c => pw p * (reach.getD c 0 * payP g pl i own c)) := sumI_congr fun c _ => by
        rw [vP_end h2, ← Int.mul_assoc, Int.mul_comm]
      rw [e, sumI_map_mul, Int.mul_comm]; exact Int.le_refl _
    · rw [if_neg h2]
      obtain ⟨d1, d2⟩ := dep_child (f := f) h2
      obtain ⟨p', rfl⟩ : ∃ p', p = p' + 1 := ⟨p - 1, by omega⟩
      have hkid : ∀ k, k < (g.nd.getD i nd0).ch.length → ((g.nd.getD i nd0).ch.getD k 0).toNat < g.nd.length ∧ dep g.nd f ((g.nd.getD i nd0).ch.getD k 0).toNat ≤ p' := fun k hk => by
        have hmem : (g.nd.getD i nd0).ch.getD k 0 ∈ (g.nd.getD i nd0).ch := getD_mem 0 hk
        have h1 := hch _ hmem
        have h3 := d2 _ hmem
        exact ⟨by omega, by omega⟩
      by_cases h3 : (g.nd.getD i nd0).p = pl
      · rw [if_pos h3]
        obtain ⟨m1, m2, m3⟩ := hm i own hi hown h3
        generalize hq : partsOf g (mineOf pl s t) pl i own = q at m1 m2 m3
        have e1 : sumI ((List.range reach.length).map fun c => reach.getD c 0 * vP g s t pl own c (f + 1) i (p' + 1)) = sumI ((List.range reach.length).map fun c => sumI ((List.range (g.nd.getD i nd0).ch.length).map fun k => reach.getD c 0 * (q.getD k 0 * vP g s t pl own c f ((g.nd.getD i nd0).ch.getD k 0).toNat p'))) := sumI_congr fun c _ => by
          rw [vP_step hnd hpl hi h2 (q := q) (by rw [if_pos h3, hq]) m1, sumI_map_mul]; rfl
        rw [e1, sumI_swap]
        have e2 : sumI ((List.range (g.nd.getD i nd0).ch.length).map fun k => sumI ((List.range reach.length).map fun c => reach.getD c 0 * (q.getD k 0 * vP g s t pl own c f ((g.nd.getD i nd0).ch.getD k 0).toNat p'))) = sumI ((List.range (g.nd.getD i nd0).ch.length).map fun k => q.getD k 0 * sumI ((List.range reach.length).map fun c => reach.getD c 0 * vP g s t pl own c f ((g.nd.getD i nd0).ch.getD k 0).toNat p')) := sumI_congr fun k _ => by
          rw [← sumI_map_mul]
          refine sumI_congr fun c _ => ?_
          rw [← Int.mul_assoc, Int.mul_comm (reach.getD c 0), Int.mul_assoc]
        rw [e2]
        generalize hB : ((g.nd.getD i nd0).ch.map fun c => bestV g (otOf pl s t) pl own f c.toNat reach (p' + 1)).getD (argmax ((g.nd.getD i nd0).ch.map fun c => bestV g (otOf pl s t) pl own f c.toNat reach (p' + 1))) 0 = B
        have hle : ∀ k, k < (g.nd.getD i nd0).ch.length → 60 * sumI ((List.range reach.length).map fun c => reach.getD c 0 * vP g s t pl own c f ((g.nd.getD i nd0).ch.getD k 0).toNat p') ≤ B := fun k hk => by
          obtain ⟨k1, k2⟩ := hkid k hk
          have h4 := best_ge hnd hpl hm hot hown f _ reach p' k1 hr h0 k2
          have h5 := bestV_scale (g := g) (ot := otOf pl s t) (pl := pl) (own := own) f ((g.nd.getD i nd0).ch.getD k 0).toNat reach p' k2
          have h6 := argmax_max (l := (g.nd.getD i nd0).ch.map fun c => bestV g (otOf pl s t) pl own f c.toNat reach (p' + 1)) (k := k) (by simpa using hk)
          rw [hB] at h6
          have h7 : ((g.nd.getD i nd0).ch.map fun c => bestV g (otOf pl s t) pl own f c.toNat reach (p' + 1)).getD k 0 = bestV g (otOf pl s t) pl own f ((g.nd.getD i nd0).ch.getD k 0).toNat reach (p' + 1) := getD_mapI (fun c => bestV g (otOf pl s t) pl own f c.toNat reach (p' + 1)) hk
          rw [h7] at h6
          omega
        have hfin := sumI_le_sum (l := List.range (g.nd.getD i nd0).ch.length) (F := fun k => 60 * (q.getD k 0 * sumI ((List.range reach.length).map fun c => reach.getD c 0 * vP g s t pl own c f ((g.nd.getD i nd0).ch.getD k 0).toNat p'))) (G := fun k => B * q.getD k 0) fun k hk => by
          have hk := List.mem_range.1 hk
          have hqk : 0 ≤ q.getD k 0 := by
            rw [List.getD_eq_getElem?_getD, List.getElem?_eq_getElem (by omega)]; exact (m2 _ (List.getElem_mem _)).1
          have := Int.mul_le_mul_of_nonneg_left (hle k hk) hqk
          rw [Int.mul_comm B, ← Int.mul_assoc, Int.mul_comm 60, Int.mul_assoc]
          exact this
        rw [sumI_map_mul, sumI_map_mul, ← m1, map_getD_range, m3] at hfin
        rw [m1] at hfin
        omega
      · rw [if_neg h3]
        have hp1 : (g.nd.getD i nd0).p = 1 - pl := by omega
        have hqc := fun c (hc : c < g.w.length) => hot i c hi hc hp1
        have e1 : sumI ((List.range reach.length).map fun c => reach.getD c 0 * vP g s t pl own c (f + 1) i (p' + 1)) = sumI ((List.range reach.length).map fun c => sumI ((List.range (g.nd.getD i nd0).ch.length).map fun k => reach.getD c 0 * ((partsOf g (otOf pl s t) (1 - pl) i c).getD k 0 * vP g s t pl own c f ((g.nd.getD i nd0).ch.getD k 0).toNat p'))) := sumI_congr fun c hc => by
          have hc := List.mem_range.1 hc
          rw [vP_step hnd hpl hi h2 (q := partsOf g (otOf pl s t) (1 - pl) i c) (by rw [if_neg h3]) (hqc c (by omega)).1, sumI_map_mul]; rfl
        rw [e1, sumI_swap]
        refine sumI_le_sum fun k hk => ?_
        have hk := List.mem_range.1 hk
        obtain ⟨k1, k2⟩ := hkid k hk
        have h4 := best_ge hnd hpl hm hot hown f ((g.nd.getD i nd0).ch.getD k 0).toNat (nextR g (otOf pl s t) pl i reach k) p' k1 (by rw [nextR_length, hr]) (nextR_nonneg hot hi hr hp1 h0 k) k2
        rw [nextR_length] at h4
        refine Int.le_trans (Int.le_of_eq (sumI_congr fun c hc => ?_)) h4
        have hc := List.mem_range.1 hc
        have : (nextR g (otOf pl s t) pl i reach k).getD c 0 = reach.getD c 0 * (partsOf g (otOf pl s t) (1 - pl) i c).getD k 0 := by
          unfold nextR
          rw [List.getD_eq_getElem?_getD, List.getElem?_map, List.getElem?_range hc]; rfl
        rw [this, Int.mul_assoc]

def gnum (g : Gm) (s t : List (List Int)) : Int := sumI ((List.range g.w.length).map fun a => sumI ((List.range g.w.length).map fun b => (g.w.getD a []).getD b 0 * val g s t g.nd.length 0 a b (dpt g)))
theorem dpt_eq (g : Gm) : ((dpt g : Nat) : Int) = dep g.nd g.nd.length 0 := by
  have := (dep_nonneg (l := g.nd) g.nd.length 0).1
  unfold dpt; omega
theorem reach0_getD {g : Gm} {pl : Int} {own c : Nat} (hc : c < g.w.length) : (reach0 g pl own).getD c 0 = if pl = 0 then (g.w.getD own []).getD c 0 else (g.w.getD c []).getD own 0 := by
  unfold reach0
  rw [List.getD_eq_getElem?_getD, List.getElem?_map, List.getElem?_range hc]; rfl
theorem gnum_le {g : Gm} {s t : List (List Int)} (hg : isGameB g = true) (hs : partsOK g s 0) (ht : partsOK g t 1) : gnum g s t ≤ runV g t 0 g.w.length := by
  obtain ⟨ht1, hk, hw, _, _, _⟩ := isGameB_spec hg
  obtain ⟨hn, hnd, _, _⟩ := isTreeB_spec ht1
  unfold gnum runV
  refine sumI_le_sum fun a ha => ?_
  have ha := List.mem_range.1 ha
  have h := best_ge (s := s) (t := t) (pl := 0) (own := a) hnd (.inl rfl) hs ht ha g.nd.length 0 (reach0 g 0 a) (dpt g) (by omega) (reach0_length g 0 a) (fun x hx => (reach0_bound hw 0 a x hx).1) (by rw [dpt_eq]; exact Int.le_refl _)
  rw [reach0_length] at h
  refine Int.le_trans (Int.le_of_eq (sumI_congr fun b hb => ?_)) h
  have hb := List.mem_range.1 hb
  rw [reach0_getD hb, if_pos rfl]
  unfold vP
  rw [if_pos rfl]
theorem gnum_ge {g : Gm} {s t : List (List Int)} (hg : isGameB g = true) (hs : partsOK g s 0) (ht : partsOK g t 1) : -runV g s 1 g.w.length ≤ gnum g s t := by
  obtain ⟨ht1, hk, hw, _, _, _⟩ := isGameB_spec hg
  obtain ⟨hn, hnd, _, _⟩ := isTreeB_spec ht1
  have key : -gnum g s t ≤ runV g s 1 g.w.length := by
    unfold gnum runV
    rw [sumI_swap, ← sumI_neg]
    refine sumI_le_sum fun b hb => ?_
    have hb := List.mem_range.1 hb
    have h := best_ge (s := s) (t := t) (pl := 1) (own := b) hnd (.inr rfl) ht hs hb g.nd.length 0 (reach0 g 1 b) (dpt g) (by omega) (reach0_length g 1 b) (fun x hx => (reach0_bound hw 1 b x hx).1) (by rw [dpt_eq]; exact Int.le_refl _)
    rw [reach0_length] at h
    rw [← sumI_neg]
    refine Int.le_trans (Int.le_of_eq (sumI_congr fun a ha => ?_)) h
    have ha := List.mem_range.1 ha
    rw [reach0_getD ha, if_neg (by decide)]
    unfold vP
    rw [if_neg (by decide), Int.mul_neg]
  omega
end Go.Ab

/- Games as data: the parts of a tree below its nodes; what a best response writes. -/
set_option linter.unusedSimpArgs false
set_option linter.unusedVariables false
namespace Go.Ab

def isKid (l : List Nd) (i j : Nat) : Prop := i < l.length ∧ (l.getD i nd0).p ≠ 2 ∧ (j : Int) ∈ (l.getD i nd0).ch
inductive Rch (l : List Nd) : Nat → Nat → Prop
  | refl (i : Nat) : Rch l i i
  | step {i j k : Nat} : Rch l i j → isKid l j k → Rch l i k
theorem kid_lt {l : List Nd} (h : ndsOK l) {i j : Nat} (hk : isKid l i j) : i < j ∧ j < l.length := by
  obtain ⟨h1, h2, h3⟩ := hk
  have hx : l[i]? = some (l.getD i nd0) := by rw [List.getD_eq_getElem?_getD, List.getElem?_eq_getElem h1]; rfl
  have := ndOK_child (h i _ hx) _ h3
  omega
theorem Rch.le {l : List Nd} (h : ndsOK l) {i j : Nat} (hr : Rch l i j) : i ≤ j := by
  induction hr with
  | refl => exact Nat.le_refl _
  | step _ hk ih => have := kid_lt h hk; omega
theorem occ_count {l : List Nd} {i j : Nat} (hk : isKid l i j) : 1 ≤ occ j [l.getD i nd0] := by
  obtain ⟨h1, h2, h3⟩ := hk
  have := List.count_pos_iff.2 h3
  simp only [occ, List.map_cons, List.map_nil, if_neg h2, List.sum_cons, List.sum_nil]
  omega
theorem occ_append (c : Nat) (l l' : List Nd) : occ c (l ++ l') = occ c l + occ c l' := by simp [occ]
theorem occ_two {l : List Nd} {i i' j : Nat} (hii : i < i') (h : isKid l i j) (h' : isKid l i' j) : 2 ≤ occ j l := by
  have hl' : i' < l.length := h'.1
  have hl : i < l.length := h.1
  have e1 : l = l.take i' ++ (l.getD i' nd0) :: l.drop (i' + 1) := by
    have : l.getD i' nd0 = l[i']'hl' := by simp [List.getD_eq_getElem?_getD, List.getElem?_eq_getElem hl']
    rw [this, ← List.drop_eq_getElem_cons hl', List.take_append_drop]
  have hil : i < (l.take i').length := by rw [List.length_take]; omega
  have e2 : l.take i' = (l.take i').take i ++ (l.getD i nd0) :: (l.take i').drop (i + 1) := by
    have : l.getD i nd0 = (l.take i')[i]'hil := by simp [List.getElem_take, List.getD_eq_getElem?_getD, List.getElem?_eq_getElem hl]
    rw [this, ← List.drop_eq_getElem_cons hil, List.take_append_drop]
  have o1 := occ_count h
  have o2 := occ_count h'
  have e3 : occ j (l.getD i' nd0 :: l.drop (i' + 1)) = occ j [l.getD i' nd0] + occ j (l.drop (i' + 1)) := occ_append j [_] _
  have e4 : occ j (l.getD i nd0 :: (l.take i').drop (i + 1)) = occ j [l.getD i nd0] + occ j ((l.take i').drop (i + 1)) := occ_append j [_] _
  have e5 : occ j l = occ j (l.take i') + occ j (l.getD i' nd0 :: l.drop (i' + 1)) := by
    conv => lhs; rw [e1]
    exact occ_append _ _ _
  have e6 : occ j (l.take i') = occ j ((l.take i').take i) + occ j (l.getD i nd0 :: (l.take i').drop (i + 1)) := by
    conv => lhs; rw [e2]
    exact occ_append _ _ _
  omega
theorem kid_unique {l : List Nd} (h : ndsOK l) (ho : ∀ i, i < l.length → i = 0 ∨ occ i l = 1) {i i' j : Nat} (hk : isKid l i j) (hk' : isKid l i' j) : i = i' := by
  have hj := kid_lt h hk
  have h1 := (ho j hj.2).resolve_left (by omega)
  rcases Nat.lt_trichotomy i i' with h2 | h2 | h2
  · have := occ_two h2 hk hk'; omega
  · exact h2
  · have := occ_two h2 hk' hk; omega
theorem Rch.up {l : List Nd} {i j : Nat} (hr : Rch l i j) : j = i ∨ ∃ m, Rch l i m ∧ isKid l m j := by
  cases hr with
  | refl => exact .inl rfl
  | step h hk => exact .inr ⟨_, h, hk⟩
theorem Rch.apart {l : List Nd} (h : ndsOK l) (ho : ∀ i, i < l.length → i = 0 ∨ occ i l = 1) {i c1 c2 j : Nat} (k1 : isKid l i c1) (k2 : isKid l i c2) (h1 : Rch l c1 j) (h2 : Rch l c2 j) : c1 = c2 := by
  induction h1 with
  | refl =>
    rcases h2.up with e | ⟨m, hm, hk⟩
    · exact e
    · have := kid_unique h ho k1 hk
      subst this
      have := hm.le h
      have := kid_lt h k2
      omega
  | step hj hk ih =>
    rcases h2.up with e | ⟨m, hm, hk2⟩
    · subst e
      have := kid_unique h ho k2 hk
      subst this
      have := hj.le h
      have := kid_lt h k1
      omega
    · have := kid_unique h ho hk hk2
      subst this
      exact ih hm
end Go.Ab

/- Games as data: where a player's nodes have their sets; the reach as it is made. -/
set_option linter.unusedSimpArgs false
set_option linter.unusedVariables false
namespace Go.Ab

def fillN (ns : List Int) (k n : Nat) : Nat → List Int
  | 0 => List.replicate n 0
  | j + 1 => (fillN ns k n j).set (ns.getD j 0).toNat ((j * k : Nat) : Int)
theorem fillN_length (ns : List Int) (k n : Nat) : ∀ j, (fillN ns k n j).length = n
  | 0 => by simp [fillN]
  | j + 1 => by rw [fillN, List.length_set, fillN_length ns k n j]
def ownL (g : Gm) (pl : Int) : List Int := fillN (idxs g.nd pl g.nd.length) g.w.length g.nd.length (idxs g.nd pl g.nd.length).length
theorem ownL_length (g : Gm) (pl : Int) : (ownL g pl).length = g.nd.length := fillN_length _ _ _ _
theorem idxs_nodup (l : List Nd) (pl : Int) (n : Nat) : (idxs l pl n).Nodup := by
  unfold idxs
  have h : ((List.range n).filter fun i => decide ((l.getD i nd0).p = pl)).Nodup := List.nodup_range.sublist List.filter_sublist
  refine List.Pairwise.map _ (fun a b hab => ?_) h
  intro he
  exact hab (by have he : (a : Int) = b := he; omega)
theorem fillN_get {ns : List Int} {k n i q0 : Nat} (hn : ns.Nodup) (h0 : ∀ x ∈ ns, 0 ≤ x) (hq : ns[q0]? = some (i : Int)) (hi : i < n) : ∀ j, j ≤ ns.length → (fillN ns k n j)[i]? = some (if q0 < j then ((q0 * k : Nat) : Int) else 0)
  | 0, _ => by
    rw [fillN, List.getElem?_replicate, if_pos hi, if_neg (by omega)]
  | j + 1, hj => by
    have ih := fillN_get (k := k) hn h0 hq hi j (by omega)
    obtain ⟨hq1, hq2⟩ := List.getElem?_eq_some_iff.1 hq
    have hjd : ns.getD j 0 = ns[j]'(by omega) := by rw [List.getD_eq_getElem?_getD, List.getElem?_eq_getElem (by omega : j < ns.length)]; rfl
    have hj0 := h0 (ns[j]'(by omega)) (List.getElem_mem _)
    rw [fillN, hjd, List.getElem?_set, fillN_length]
    by_cases he : j = q0
    · subst he
      rw [hq2]
      simp only [Int.toNat_natCast, if_true]
      rw [if_pos hi, if_pos (by omega)]
    · have hne : ns[j]'(by omega) ≠ (i : Int) := fun h => by
        rcases Nat.lt_or_gt_of_ne he with h1 | h1
        · exact (List.pairwise_iff_getElem.1 hn j q0 (by omega) hq1 h1) (h.trans hq2.symm)
        · exact (List.pairwise_iff_getElem.1 hn q0 j hq1 (by omega) h1) (hq2.trans h.symm)
      rw [if_neg (by omega), ih]
      by_cases h2 : q0 < j
      · rw [if_pos h2, if_pos (by omega)]
      · rw [if_neg h2, if_neg (by omega)]
theorem ownL_get {g : Gm} {pl : Int} {i : Nat} (hi : i < g.nd.length) (hp : (g.nd.getD i nd0).p = pl) : (ownL g pl)[i]? = some (((idxs g.nd pl i).length * g.w.length : Nat) : Int) := by
  obtain ⟨rest, e⟩ := idxs_split g.nd pl hp g.nd.length hi
  have hq : (idxs g.nd pl g.nd.length)[(idxs g.nd pl i).length]? = some (i : Int) := by
    rw [e, List.getElem?_append_right (Nat.le_refl _), Nat.sub_self]; rfl
  have h0 : ∀ x ∈ idxs g.nd pl g.nd.length, 0 ≤ x := fun x hx => by
    obtain ⟨j, rfl, _⟩ := idxs_mem hx; omega
  have hlt := (List.getElem?_eq_some_iff.1 hq).1
  have := fillN_get (k := g.w.length) (idxs_nodup g.nd pl g.nd.length) h0 hq hi _ (Nat.le_refl _)
  rw [if_pos hlt] at this
  exact this
end Go.Ab

/- Contracts: the best number and the first best response, the reference's. -/
set_option linter.unusedSimpArgs false
set_option linter.unusedVariables false
namespace Go.Ab
open Go.Proofs

theorem deal_w {g : Gm} (hg : isGameB g = true) {pl : Int} (hpl : pl = 0 ∨ pl = 1) {own b : Nat} (ho : own < g.w.length) (hb : b < g.w.length) : ∃ (u v : Nat) (r : List Int) (y : Int), fstC pl own b = u ∧ fstC pl b own = v ∧ g.w[u]? = some r ∧ r[v]? = some y ∧ (reach0 g pl own)[b]? = some y ∧ u < g.w.length ∧ v < r.length := by
  have e0 : (reach0 g pl own)[b]? = some (if pl = 0 then (g.w.getD own []).getD b 0 else (g.w.getD b []).getD own 0) := by
    unfold reach0; rw [List.getElem?_map, List.getElem?_range hb]; rfl
  rcases hpl with rfl | rfl
  · obtain ⟨r, y, h1, h2, _⟩ := game_w hg ho hb
    refine ⟨own, b, r, y, rfl, rfl, h1, h2, ?_, ho, (List.getElem?_eq_some_iff.1 h2).1⟩
    rw [e0, if_pos rfl]; simp only [List.getD_eq_getElem?_getD, h1, Option.getD_some, h2]
  · obtain ⟨r, y, h1, h2, _⟩ := game_w hg hb ho
    refine ⟨b, own, r, y, rfl, rfl, h1, h2, ?_, hb, (List.getElem?_eq_some_iff.1 h2).1⟩
    rw [e0, if_neg (by decide)]; simp only [List.getD_eq_getElem?_getD, h1, Option.getD_some, h2]
theorem cap0 {g : Gm} (hg : isGameB g = true) (pl : Int) (own : Nat) : capOK (reach0 g pl own) (dpt g) ∧ (∀ x ∈ reach0 g pl own, 0 ≤ x) := by
  obtain ⟨_, hk, hw, _, _, _⟩ := isGameB_spec hg
  obtain ⟨_, _, _, _, _, h1, h2⟩ := game_unit hg
  have hb := reach0_bound hw pl own
  have hs := sumI_le (b := 9) fun x hx => (hb x hx).2
  rw [reach0_length] at hs
  have hs0 := sumI_nonneg fun x hx => (hb x hx).1
  refine ⟨?_, fun x hx => (hb x hx).1⟩
  unfold capOK
  have h3 : sumI (reach0 g pl own) ≤ 54 := by omega
  have := Int.mul_le_mul h3 h2 (by omega) (by decide)
  omega
theorem Le.bc {a a' : T} {l l' : List T} (h : Le a a') (hl : Le (.box l) (.box l')) : Le (.box (a :: l)) (.box (a' :: l')) := by
  have hb : l.length = l'.length ∧ ∀ i (h : i < l.length) (h' : i < l'.length), Le l[i] l'[i] := by
    cases hl with
    | refl => exact ⟨rfl, fun i _ _ => .refl _⟩
    | box h1 h2 => exact ⟨h1, h2⟩
  refine .box (by simp [hb.1]) fun i hi hi' => ?_
  cases i with
  | zero => exact h
  | succ i => exact hb.2 i (by simpa using hi) (by simpa using hi')
theorem Le.nilRows (n : Nat) : Le (.arr 1 (List.replicate n (.v (.slice none 0 0)))) (rowsO (List.replicate n [])) := by
  refine .arr 1 (by simp) fun i h h' => ?_
  simp only [List.getElem_replicate, List.getElem_map]
  exact .nilArr 1
theorem runV_abs {g : Gm} (hg : isGameB g = true) {ot : List (List Int)} {pl : Int} (hpl : pl = 0 ∨ pl = 1) (hot : partsOK g ot (1 - pl)) (n : Nat) : -(n * capV) ≤ runV g ot pl n ∧ runV g ot pl n ≤ n * capV := by
  obtain ⟨p1, hk, hw, _, _, _⟩ := isGameB_spec hg
  obtain ⟨t1, t2, t3, t4⟩ := isTreeB_spec p1
  unfold runV
  refine sumI_range_abs fun own _ => ?_
  have hc := cap0 hg pl own
  exact bestV_cap t2 hpl hot (by omega) (reach0_length g pl own) hc.2 (by rw [dpt_eq]; exact Int.le_refl _) hc.1
def runT (g : Gm) (ot : List (List Int)) (pl : Int) : T := .tup [.i (runV g ot pl g.w.length), .agg [.i pl, rowsO (runB g ot pl g.w.length)]]
section
attribute [-go_sem] load1C load1V fldC lenC idxC loadNV nilCheckW
set_option maxRecDepth 20000 in
theorem spec_l24Run_ok {g : Gm} {ot : List (List Int)} {pl : Int} (hg : isGameB g = true) (hpl : pl = 0 ∨ pl = 1) (hot : partsOK g ot (1 - pl)) : Fun Try.prog 132 [] [.t (gameT g), .t (stratT (1 - pl, ot))] fun o r => o = [] ∧ r = runT g ot pl := by
  obtain ⟨p1, p2, p3, p4, p5⟩ := isGameB_parts hg
  obtain ⟨t1, t2, t3, t4⟩ := isTreeB_spec p1
  obtain ⟨u1, u2, u3, u4, u5, u6, u7⟩ := game_unit hg
  have hsl := sets_len g pl t1.2 p2.2
  have hrv := runV_abs (n := g.w.length) hg hpl hot
  refine fun_spec_l24Run_h (by simp) ?_
  simp -implicitDefEqProofs only [go_sem, evR, ints, rows, rat, rats, c_spec_l24Run_h, gameT, stratT, nodes]
  rw [wrap64 (n := 1 - (1 - pl)) (by omega) (by omega), show 1 - (1 - pl) = pl by omega]
  refine CallC.res (l21Sets_t g pl t1.2 p2.2) [] rfl Try.call186 (fun e R' hR => ?_) (.inl rfl) ?_
  · simp -implicitDefEqProofs only [agR, Nat.reduceLeDiff, Nat.reduceSub, vaR, go_sem, ints, rows, rat, rats, ratsO, rtR, intsO, rowsO]
  simp -implicitDefEqProofs only [clR, Nat.reduceLeDiff, go_sem, evR, rat, rowsO, made_one, List.length_map]
  refine ⟨by omega, by omega, ?_⟩
  refine SemC.loopR (σ := Nat) (fun k => St.of [(2, .own 2), (5, .own 5), (6, .own 19), (7, .t (.i (runV g ot pl k))), (8, .t (.i k))] [(2, .box [nodes g.nd, rows g.w, rows g.v]), (5, .box [.i 0, .v (.slice none 0 0)]), (19, srch g ot pl (runB g ot pl k))]) (fun k => k ≤ g.w.length) (fun k => g.w.length - k) 0 (Weak.of _ _ [some 2, some 5, some 19] (by simp) (by simp) ?_ ?_) (by omega) fun k hk R hn hr he => ?_
  · simp -implicitDefEqProofs only [ints, rows, Nat.reduceBEq, wkR, Nat.reduceEqDiff, ↓reduceIte, wrR, nodes, runV, List.range_zero, List.map_nil, sumI]
  · refine ⟨⟨_, rfl, .refl _⟩, rfl, ⟨_, rfl, .refl _⟩, rfl, ⟨_, rfl, ?_⟩, rfl, trivial⟩
    refine .bc (.refl _) (.bc (.refl _) (.bc (.refl _) (.bc (.refl _) (.bc (.refl _) (.bc (.refl _) (.bc ?_ (.refl _)))))))
    exact Le.nilRows _
  · rcases Nat.lt_or_ge k g.w.length with h9 | h9
    · simp -implicitDefEqProofs only [go_sem, evR, ints, rows, rat, rats, srch, nodes, decide_eq_true (show (k : Int) < (g.w.length : Int) by omega)]
      refine SemC.loopR (σ := Nat) (fun b => St.of [(2, .own 2), (5, .own 5), (6, .own 19), (7, .t (.i (runV g ot pl k))), (8, .t (.i k)), (9, .own 77), (10, .t (.i b))] [(2, .box [nodes g.nd, rows g.w, rows g.v]), (5, .box [.i 0, .v (.slice none 0 0)]), (19, srch g ot pl (runB g ot pl k)), (77, .arr 1 (((reach0 g pl k).take b).map T.i))]) (fun b => b ≤ g.w.length) (fun b => g.w.length - b) 0 (Weak.of _ _ [some 2, some 5, some 19, some 38] (by simp) (by simp) ?_ ?_) (by omega) fun b hb R2 hn2 hr2 he2 => ?_
      · simp -implicitDefEqProofs only [ints, rows, Nat.reduceBEq, wkR, Nat.reduceEqDiff, ↓reduceIte, wrR, nodes, srch]
      · exact ⟨⟨_, rfl, .refl _⟩, rfl, ⟨_, rfl, .refl _⟩, rfl, ⟨_, rfl, .refl _⟩, rfl, ⟨_, rfl, .refl _⟩, rfl, trivial⟩
      · have hrl := reach0_length g pl k
        rcases Nat.lt_or_ge b g.w.length with h8 | h8
        · obtain ⟨u, v, r, y, d1, d2, d3, d4, d5, d6, d7⟩ := deal_w hg hpl h9 h8
          simp -implicitDefEqProofs only [go_sem, evR, ints, rows, rat, rats, srch, nodes, decide_eq_true (show (b : Int) < (g.w.length : Int) by omega)]
          refine CallW.ref (l24Deal_t g ot (runB g ot pl k) pl k b) [19] [] rfl Try.call188 (by simp) ?_ (by simp) ?_ (.inl rfl) ?_
          · simp -implicitDefEqProofs only [srR, Nat.reduceEqDiff, ↓reduceIte, ints, rows, intsO, rowsO]
          · simp -implicitDefEqProofs only [agR, Nat.reduceLeDiff, Nat.reduceSub, vaR, go_sem, ints, rows, rat, rats, ratsO, rtR, intsO, rowsO]
          simp -implicitDefEqProofs only [clR, Nat.reduceLeDiff, go_sem, evR, rat, d1, d2, d3, d4, ints]
          refine ⟨by omega, by omega, by omega, by omega, by omega, by omega, by rw [List.length_take]; omega, hn2 _ (b + 1) (Weak.of _ _ [some 2, some 5, some 19, some 63] (by simp) (by simp) ?_ ?_) (by omega) (by omega)⟩
          · simp -implicitDefEqProofs only [ints, rows, Nat.reduceBEq, wkR, Nat.reduceEqDiff, ↓reduceIte, wrR, nodes, srch, next64 h8 (by omega)]
          · refine ⟨⟨_, rfl, .refl _⟩, rfl, ⟨_, rfl, .refl _⟩, rfl, ⟨_, rfl, .refl _⟩, rfl, ⟨_, rfl, ?_⟩, rfl, trivial⟩
            rw [take_snoc d5, List.map_append]; exact .refl _
        · simp -implicitDefEqProofs only [go_sem, evR, ints, rows, rat, rats, srch, nodes, decide_eq_false (show ¬ (b : Int) < (g.w.length : Int) by omega)]
          refine he2 _ _ ?_
          simp -implicitDefEqProofs only [go_sem, evR, ints, rows, rat, rats, srch, nodes]
          rw [List.take_of_length_le (show (reach0 g pl k).length ≤ b by omega)]
          refine ⟨_, Weak.trans (Weak.share 77 rfl) (Weak.of [(2, .own 2), (5, .own 5), (6, .own 19), (7, .t (.i (runV g ot pl k))), (8, .t (.i k)), (9, .t (ints (reach0 g pl k)))] [(2, .box [nodes g.nd, rows g.w, rows g.v]), (5, .box [.i 0, .v (.slice none 0 0)]), (19, srch g ot pl (runB g ot pl k))] [some 2, some 5, some 19] (by simp) (by simp) ?_ ?_), ?_⟩
          · simp -implicitDefEqProofs only [ints, rows, Nat.reduceBEq, wkR, Nat.reduceEqDiff, ↓reduceIte, wrR, shareA, srch, nodes, T.toSh, T.toShL_eq_map, List.map_map]
            exact .inr (.inl rfl)
          · exact ⟨⟨_, rfl, .refl _⟩, rfl, ⟨_, rfl, .refl _⟩, rfl, ⟨_, rfl, .refl _⟩, rfl, trivial⟩
          · simp -implicitDefEqProofs only [go_sem, evR, ints, rows, rat, rats, srch, nodes]
            refine CallW.pure (dep_t (spec_l20Depth_ok t2 (by omega) g.nd.length 0 (by omega) (by omega) (by omega))) [] rfl Try.call158 ?_ (by first | trivial | simp [T.noSh, T.noShL, rat]) rfl ?_
            · simp -implicitDefEqProofs only [agR, Nat.reduceLeDiff, Nat.reduceSub, vaR, go_sem, ints, rows, rat, rats, ratsO, rtR, intsO, rowsO]
            simp -implicitDefEqProofs only [go_sem, evR, ints, rows, rat, rats]
            rw [u2]
            have hc := cap0 hg pl k
            have hcall := spec_l24Visit_ok hg hpl hot h9 g.nd.length 0 (reach0 g pl k) (dpt g) (runB g ot pl k) (by omega) (by omega) hrl hc.2 (by rw [dpt_eq]; exact Int.le_refl _) u3 hc.1 (runB_rows t2 ot pl k)
            rw [← runB_succ] at hcall
            simp only [srch, nodes, rows, ints] at hcall
            have hv1 := runV_abs hg hpl hot k
            have hv2 := runV_abs hg hpl hot (k + 1)
            have hcv : capV = 4199040000000 := rfl
            have hk6 : ((k + 1 : Nat) : Int) * capV ≤ 6 * capV := Int.mul_le_mul_of_nonneg_right (by omega) (by decide)
            rw [runV_succ] at hv2
            refine CallW.ref hcall [19] [] rfl Try.call189 (by simp) ?_ (by simp) ?_ (.inl rfl) ?_
            · simp -implicitDefEqProofs only [srR, Nat.reduceEqDiff, ↓reduceIte, ints, rows, intsO, rowsO]
            · simp -implicitDefEqProofs only [agR, Nat.reduceLeDiff, Nat.reduceSub, vaR, go_sem, ints, rows, rat, rats, ratsO, rtR, intsO, rowsO]
            simp -implicitDefEqProofs only [clR, Nat.reduceLeDiff, go_sem, evR, rat]
            refine hn _ (k + 1) (Weak.of _ _ [some 2, some 5, some 19] (by simp) (by simp) ?_ ?_) (by omega) (by omega)
            · simp -implicitDefEqProofs only [ints, rows, Nat.reduceBEq, wkR, Nat.reduceEqDiff, ↓reduceIte, wrR, srch, nodes, next64 h9 (by omega), wrap64 (n := runV g ot pl k + bestV g ot pl k g.nd.length 0 (reach0 g pl k) (dpt g)) (by omega) (by omega), runV_succ]
            · exact ⟨⟨_, rfl, .refl _⟩, rfl, ⟨_, rfl, .refl _⟩, rfl, ⟨_, rfl, .refl _⟩, rfl, trivial⟩
    · simp -implicitDefEqProofs only [go_sem, evR, ints, rows, rat, rats, srch, nodes, decide_eq_false (show ¬ (k : Int) < (g.w.length : Int) by omega)]
      refine he _ _ ?_
      simp -implicitDefEqProofs only [go_sem, evR, ints, rows, rat, rats]
      refine ⟨_, Weak.open 19 6 500 rfl rfl rfl (by decide) rfl, ?_⟩
      simp -implicitDefEqProofs only [go_sem, evR, ints, rows, rat, rats, List.lookup_cons, beq_self_eq_true, Nat.reduceBEq]
      rw [show k = g.w.length by omega]; rfl
end
end Go.Ab

/- Contracts: best responses, the program's. -/
set_option linter.unusedSimpArgs false
set_option linter.unusedVariables false
namespace Go.Ab
open Go.Proofs

def rbox (g : Gm) (ot : List (List Int)) (pl : Int) (card : Int) (B : List (List Int)) : T := .box [nodes g.nd, rows g.w, rows g.v, .i pl, .i card, ints (ownL g pl), ints (ownL g (1 - pl)), rows ot, .i pl, rowsO B]
def uS (g : Gm) (pl : Int) (i own : Nat) (reach : List Int) (k : Nat) : Int := sumI ((List.range k).map fun c => reach.getD c 0 * payP g pl i own c)
theorem uS_succ (g : Gm) (pl : Int) (i own : Nat) (reach : List Int) (k : Nat) : uS g pl i own reach (k + 1) = uS g pl i own reach k + reach.getD k 0 * payP g pl i own k := by
  unfold uS
  rw [List.range_succ, List.map_append, List.map_cons, List.map_nil, sumI_snoc]
theorem uS_abs {g : Gm} {pl : Int} {i own : Nat} {reach : List Int} {p : Nat} (hp : payOK g) (h0 : ∀ x ∈ reach, 0 ≤ x) (hc : capOK reach p) (k : Nat) : -(k * capV) ≤ uS g pl i own reach k ∧ uS g pl i own reach k ≤ k * capV := by
  unfold uS
  refine sumI_range_abs fun c _ => ?_
  obtain ⟨h1, h2⟩ := payP_abs hp pl i own c
  exact (term_abs h0 hc (c := c) h1 h2).2
theorem payoffAt_t {g : Gm} (hg : isGameB g = true) (i a b : Nat) (hi : i < g.nd.length) (ha : a < g.w.length) (hb : b < g.w.length) : Pure Try.prog 213 [.agg [.sh 5 (chunk nodeC g.nd), .sh 1 (g.w.map ints), .sh 1 (g.v.map ints)], .i i, .i a, .i b] (.i (pay g i a b)) := impl_payoffAt_ok g hg i a b hi ha hb
theorem capOK_less {reach : List Int} {p : Nat} (h0 : ∀ x ∈ reach, 0 ≤ x) (hc : capOK reach (p + 1)) : capOK reach p := by
  have h1 := sumI_nonneg h0
  have h2 := Int.mul_le_mul_of_nonneg_left (pw_le (show p ≤ p + 1 by omega)) h1
  unfold capOK at hc ⊢
  omega
section
attribute [-go_sem] load1C load1V fldC lenC idxC loadNV nilCheckW
set_option maxRecDepth 20000 in
theorem impl_respond_ok {g : Gm} {ot : List (List Int)} {pl : Int} {own : Nat} (hg : isGameB g = true) (hpl : pl = 0 ∨ pl = 1) (hot : partsOK g ot (1 - pl)) (hown : own < g.w.length) : ∀ (f i : Nat) (reach : List Int) (p : Nat) (B : List (List Int)), g.nd.length ≤ i + f → i < g.nd.length → reach.length = g.w.length → (∀ x ∈ reach, 0 ≤ x) → dep g.nd f i ≤ p → p ≤ 5 → capOK reach p → rows4 (sets g pl).length B →
    Fun Try.prog 182 [rbox g ot pl own B] [.own 1000000000, .t (.i i), .t (ints reach), .t (.i p)] fun o r => o = [rbox g ot pl own (bestB g ot pl own f i reach p B)] ∧ r = .i (bestV g ot pl own f i reach p) := by
  obtain ⟨p1, p2, p3, p4, p5⟩ := isGameB_parts hg
  obtain ⟨t1, t2, t3, t4⟩ := isTreeB_spec p1
  have hpay := payOK_of t2
  have hcv : capV = 4199040000000 := rfl
  intro f
  induction f with
  | zero => intro i reach p B h1 h2; omega
  | succ f ih =>
    intro i reach p B hf hi hrl hr0 hdp hp5 hcap hBl
    obtain ⟨x, hx⟩ : ∃ x, g.nd[i]? = some x := ⟨_, List.getElem?_eq_getElem hi⟩
    have hxd : g.nd.getD i nd0 = x := by rw [List.getD_eq_getElem?_getD, hx]; rfl
    have hxl := (ndOK_fields (t2 _ _ hx)).2.2.2.2.2
    have hB2 : x.p = 2 → bestB g ot pl own (f + 1) i reach p B = B := fun h => by rw [bestB]; simp only [hxd]; rw [if_pos h]
    have hV2 : x.p = 2 → bestV g ot pl own (f + 1) i reach p = uS g pl i own reach reach.length * pw p := fun h => by rw [bestV]; simp only [hxd]; rw [if_pos h]; rfl
    have hB1 : x.p ≠ 2 → x.p = pl → bestB g ot pl own (f + 1) i reach p B = (x.ch.foldl (fun B c => bestB g ot pl own f c.toNat reach p B) B).set (setI g pl i own) ((List.replicate x.ch.length 0).set (argmax (x.ch.map fun c => bestV g ot pl own f c.toNat reach p)) 60) := fun h h' => by rw [bestB]; simp only [hxd]; rw [if_neg h, if_pos h']
    have hV1 : x.p ≠ 2 → x.p = pl → bestV g ot pl own (f + 1) i reach p = (x.ch.map fun c => bestV g ot pl own f c.toNat reach p).getD (argmax (x.ch.map fun c => bestV g ot pl own f c.toNat reach p)) 0 := fun h h' => by rw [bestV]; simp only [hxd]; rw [if_neg h, if_pos h']
    have hB0 : x.p ≠ 2 → x.p ≠ pl → bestB g ot pl own (f + 1) i reach p B = (List.range x.ch.length).foldl (fun B k => bestB g ot pl own f (x.ch.getD k 0).toNat (nextR g ot pl i reach k) (p - 1) B) B := fun h h' => by rw [bestB]; simp only [hxd]; rw [if_neg h, if_neg h']
    have hV0 : x.p ≠ 2 → x.p ≠ pl → bestV g ot pl own (f + 1) i reach p = sumI ((List.range x.ch.length).map fun k => bestV g ot pl own f (x.ch.getD k 0).toNat (nextR g ot pl i reach k) (p - 1)) := fun h h' => by rw [bestV]; simp only [hxd]; rw [if_neg h, if_neg h']
    generalize bestB g ot pl own (f + 1) i reach p B = B' at hB2 hB1 hB0 ⊢
    generalize bestV g ot pl own (f + 1) i reach p = V' at hV2 hV1 hV0 ⊢
    refine fun___impl_responder__respond_h (by simp) ?_
    simp -implicitDefEqProofs only [go_sem, evR, ints, rows, rat, rats, c___impl_responder__respond_h, rbox, nodes, nd_at hx]
    refine ⟨by omega, by rw [nd_len]; omega, by rw [nd_len]; omega, ?_⟩
    refine ⟨fun h2 => ?_, fun h2 => ?_⟩
    · have h2 : x.p = 2 := by simpa using h2
      rw [hB2 h2, hV2 h2]
      refine SemC.loopR (σ := Nat) (fun k => St.of [(0, .own 1000000000), (1, .t (.i i)), (2, .t (ints reach)), (3, .t (.i p)), (10, .t (.i (uS g pl i own reach k))), (38, .t (ints reach)), (39, .t (.i reach.length)), (40, .t (.i k))] [(1000000000, rbox g ot pl own B)]) (fun k => k ≤ reach.length) (fun k => reach.length - k) 0 (Weak.of _ _ [some 1000000000] (by simp) (by simp) ?_ ?_) (by omega) fun k hk R hn hr he => ?_
      · simp -implicitDefEqProofs only [ints, rows, Nat.reduceBEq, wkR, Nat.reduceEqDiff, ↓reduceIte, wrR, show uS g pl i own reach 0 = 0 by simp [uS, sumI]]
      · exact ⟨⟨_, rfl, .refl _⟩, rfl, trivial⟩
      · have m5 := uS_abs (pl := pl) (i := i) (own := own) hpay hr0 hcap k
        have m7 : (k : Int) * capV ≤ 6 * capV := Int.mul_le_mul_of_nonneg_right (by omega) (by decide)
        rcases Nat.lt_or_ge k reach.length with h9 | h9
        · obtain ⟨y, hy⟩ : ∃ y, reach[k]? = some y := ⟨_, List.getElem?_eq_getElem h9⟩
          have hyd : reach.getD k 0 = y := by rw [List.getD_eq_getElem?_getD, hy]; rfl
          obtain ⟨q1, q2⟩ := payP_abs hpay pl i own k
          obtain ⟨_, m3, m4⟩ := term_abs hr0 hcap (c := k) q1 q2
          have m6 := uS_succ g pl i own reach k
          rw [hyd] at m3 m4 m6
          simp -implicitDefEqProofs only [go_sem, evR, ints, rows, rat, rats, rbox, nodes, hy, decide_eq_true (show (k : Int) < (reach.length : Int) by omega)]
          refine ⟨by omega, by omega, by omega, fun h5 => ?_, fun h5 => ?_⟩
          · have h5 : pl = 0 := by simpa using h5
            have hP : payP g pl i own k = pay g i own k := by rw [payP, if_pos h5]
            rw [hP] at m3 m4 m6 q1 q2
            refine CallV.pure (payoffAt_t hg i own k hi hown (by omega)) [] rfl Try.call213 (fun e R' hR => ?_) (by first | trivial | simp [T.noSh, T.noShL, rat]) (fun _ => rfl) ?_
            · simp -implicitDefEqProofs only [agR, Nat.reduceLeDiff, Nat.reduceSub, vaR, go_sem, ints, rows, rat, rats, ratsO, rtR, intsO, rowsO]
            simp -implicitDefEqProofs only [go_sem, evR, ints, rows, rat, rats]
            refine hn _ (k + 1) (Weak.of _ _ [some 1000000000] (by simp) (by simp) ?_ ?_) (by omega) (by omega)
            · simp -implicitDefEqProofs only [ints, rows, Nat.reduceBEq, wkR, Nat.reduceEqDiff, ↓reduceIte, wrR, rbox, nodes, next64 h9 (by omega), wrap64 (n := y * pay g i own k) (by omega) (by omega), ← m6, wrap64 (n := uS g pl i own reach (k + 1)) (by omega) (by omega)]
            · exact ⟨⟨_, rfl, .refl _⟩, rfl, trivial⟩
          · have h5 : ¬ pl = 0 := by simpa using h5
            have hP : payP g pl i own k = -pay g i k own := by rw [payP, if_neg h5]
            rw [hP] at m3 m4 m6 q1 q2
            rw [Int.mul_neg] at m3 m4 m6
            refine CallV.pure (payoffAt_t hg i k own hi (by omega) hown) [] rfl Try.call213 (fun e R' hR => ?_) (by first | trivial | simp [T.noSh, T.noShL, rat]) (fun _ => rfl) ?_
            · simp -implicitDefEqProofs only [agR, Nat.reduceLeDiff, Nat.reduceSub, vaR, go_sem, ints, rows, rat, rats, ratsO, rtR, intsO, rowsO]
            simp -implicitDefEqProofs only [go_sem, evR, ints, rows, rat, rats]
            refine hn _ (k + 1) (Weak.of _ _ [some 1000000000] (by simp) (by simp) ?_ ?_) (by omega) (by omega)
            · simp -implicitDefEqProofs only [ints, rows, Nat.reduceBEq, wkR, Nat.reduceEqDiff, ↓reduceIte, wrR, rbox, nodes, next64 h9 (by omega), wrap64 (n := y * pay g i k own) (by omega) (by omega), Int.sub_eq_add_neg, ← m6, wrap64 (n := uS g pl i own reach (k + 1)) (by omega) (by omega)]
            · exact ⟨⟨_, rfl, .refl _⟩, rfl, trivial⟩
        · simp -implicitDefEqProofs only [go_sem, evR, ints, rows, rat, rats, rbox, nodes, decide_eq_false (show ¬ (k : Int) < (reach.length : Int) by omega)]
          refine he _ _ ?_
          simp -implicitDefEqProofs only [go_sem, evR, ints, rows, rat, rats]
          have hke : k = reach.length := by omega
          have m8 := tS_abs (pl := pl) (i := i) (own := own) hpay hr0 hcap reach.length
          have m9 : (reach.length : Int) * capV ≤ 6 * capV := Int.mul_le_mul_of_nonneg_right (by omega) (by decide)
          have m10 : tS g pl i own reach p reach.length = uS g pl i own reach reach.length * pw p := rfl
          refine CallW.pure (impl_powerOf_ok p (by omega)) [] rfl Try.call163 ?_ (by first | trivial | simp [T.noSh, T.noShL, rat]) rfl ?_
          · simp -implicitDefEqProofs only [agR, Nat.reduceLeDiff, Nat.reduceSub, vaR, go_sem, ints, rows, rat, rats, ratsO, rtR, intsO, rowsO]
          simp -implicitDefEqProofs only [go_sem, evR, ints, rows, rat, rats]
          rw [hke, wrap64 (n := uS g pl i own reach reach.length * pw p) (by omega) (by omega)]
    have h2 : x.p ≠ 2 := by simpa using h2
    have hp2 : (g.nd.getD i nd0).p ≠ 2 := by rw [hxd]; exact h2
    obtain ⟨d1, d2⟩ := dep_child (f := f) hp2
    rw [hxd] at d2
    have hch := ndOK_child (t2 _ _ hx)
    have hset : setI g pl i own = (idxs g.nd pl i).length * g.w.length + own := rfl
    have hp1 : 1 ≤ p := by omega
    obtain ⟨p', rfl⟩ : ∃ p', p = p' + 1 := ⟨p - 1, by omega⟩
    have hcapl := capOK_less hr0 hcap
    refine ⟨fun h3 => ?_, fun h3 => ?_⟩
    · have h3 : x.p = pl := by simpa using h3
      have hpd : (g.nd.getD i nd0).p = pl := by rw [hxd]; exact h3
      have hVm : (x.ch.map fun c => bestV g ot pl own f c.toNat reach (p' + 1)) = (x.ch.map fun c => bestV g ot pl own f c.toNat reach p').map fun x => 60 * x := by
        rw [List.map_map]
        exact List.map_congr_left fun c hc => bestV_scale f c.toNat reach p' (by have := d2 c hc; omega)
      have hBm : (x.ch.foldl (fun B c => bestB g ot pl own f c.toNat reach (p' + 1) B) B) = x.ch.foldl (fun B c => bestB g ot pl own f c.toNat reach p' B) B := foldl_congr' _ _ fun B c hc => bestB_scale f c.toNat reach p' B (by have := d2 c hc; omega)
      have hB1 := hB1 h2 h3
      have hV1 := hV1 h2 h3
      rw [hVm, argmax_scale, getD_map60] at hV1
      rw [hVm, argmax_scale, hBm] at hB1
      generalize hF : (fun (B : List (List Int)) (c : Int) => bestB g ot pl own f c.toNat reach p' B) = F at hB1
      generalize hvs : (x.ch.map fun c => bestV g ot pl own f c.toNat reach p') = vs at hB1 hV1
      have hvl : vs.length = x.ch.length := by rw [← hvs, List.length_map]
      have hvb : ∀ y ∈ vs, -capV ≤ y ∧ y ≤ capV := fun y hy => by
        rw [← hvs] at hy
        obtain ⟨c, hcm, rfl⟩ := List.mem_map.1 hy
        have hcb := hch c hcm
        have hcd := d2 c hcm
        exact bestV_cap t2 hpl hot (by omega) hrl hr0 (by omega) hcapl
      rw [hB1, hV1]
      refine SemC.loopR (σ := Nat) (fun k => St.of [(0, .own 1000000000), (1, .t (.i i)), (2, .t (ints reach)), (3, .t (.i (p' + 1 : Nat))), (9, .own 9), (13, .t (.i (argmax.go k vs))), (14, .t (.i (cntA vs k))), (92, .t (ints x.ch)), (93, .t (.i x.ch.length)), (94, .t (.i k))] [(9, .box [.i x.p, .i x.a, .i x.b, .i x.f, ints x.ch]), (1000000000, rbox g ot pl own ((x.ch.take k).foldl F B))]) (fun k => k ≤ x.ch.length) (fun k => x.ch.length - k) 0 (Weak.of _ _ [some 9, some 1000000000] (by simp) (by simp) ?_ ?_) (by omega) fun k hk R hn hr he => ?_
      · simp -implicitDefEqProofs only [ints, rows, Nat.reduceBEq, wkR, Nat.reduceEqDiff, ↓reduceIte, wrR, show cntA vs 0 = 0 from rfl, show argmax.go 0 vs = 0 from rfl]
      · exact ⟨⟨_, rfl, .refl _⟩, rfl, ⟨_, rfl, .refl _⟩, rfl, trivial⟩
      · rcases Nat.lt_or_ge k x.ch.length with h9 | h9
        · obtain ⟨c, hc⟩ : ∃ c, x.ch[k]? = some c := ⟨_, List.getElem?_eq_getElem h9⟩
          have hcm := List.mem_of_getElem? hc
          have hcb := hch c hcm
          have hcd := d2 c hcm
          have hrow : rows4 (sets g pl).length ((x.ch.take k).foldl F B) := by
            refine foldl_inv (rows4 (sets g pl).length) _ _ hBl fun B' c' _ hB' => ?_
            rw [← hF]; exact bestB_rows t2 f _ _ _ _ hB'
          have hcall := ih c.toNat reach p' ((x.ch.take k).foldl F B) (by omega) (by omega) hrl hr0 (by omega) (by omega) hcapl hrow
          rw [show ((c.toNat : Nat) : Int) = c by omega, show bestB g ot pl own f c.toNat reach p' ((x.ch.take k).foldl F B) = (x.ch.take (k + 1)).foldl F B by rw [foldl_snoc F x.ch B hc, ← hF]] at hcall
          have hvk : vs[k]? = some (bestV g ot pl own f c.toNat reach p') := by rw [← hvs, List.getElem?_map, hc]; rfl
          obtain ⟨g1, g2⟩ := go_take hvk
          generalize bestV g ot pl own f c.toNat reach p' = n at hcall hvk g1 g2
          simp only [rbox, nodes, rows, ints] at hcall
          simp -implicitDefEqProofs only [go_sem, evR, ints, rows, rat, rats, rbox, nodes, hc, decide_eq_true (show (k : Int) < (x.ch.length : Int) by omega)]
          refine ⟨by omega, by omega, by omega, ?_⟩
          rw [wrap64 (n := ((p' + 1 : Nat) : Int) - 1) (by omega) (by omega), show ((p' + 1 : Nat) : Int) - 1 = (p' : Int) by omega]
          refine CallW.ref hcall [1000000000] [] rfl Try.call182 (by simp) ?_ (by simp) ?_ (.inl rfl) ?_
          · simp -implicitDefEqProofs only [srR, Nat.reduceEqDiff, ↓reduceIte, ints, rows, intsO, rowsO]
          · simp -implicitDefEqProofs only [agR, Nat.reduceLeDiff, Nat.reduceSub, vaR, go_sem, ints, rows, rat, rats, ratsO, rtR, intsO, rowsO]
          simp -implicitDefEqProofs only [clR, Nat.reduceLeDiff, go_sem, evR, rat]
          refine ⟨fun h0 => ⟨fun h1 => ?_, fun h1 => ?_⟩, fun h0 => ?_⟩
          · rw [if_pos (.inr h1)] at g1 g2
            refine hn _ (k + 1) (Weak.of _ _ [some 9, some 1000000000] (by simp) (by simp) ?_ ?_) (by omega) (by omega)
            · simp -implicitDefEqProofs only [ints, rows, Nat.reduceBEq, wkR, Nat.reduceEqDiff, ↓reduceIte, wrR, next64 h9 (by omega), g1, g2]
            · exact ⟨⟨_, rfl, .refl _⟩, rfl, ⟨_, rfl, .refl _⟩, rfl, trivial⟩
          · rw [if_neg (by rintro (h | h); (· rw [h] at h0; simp at h0); (· exact h1 h))] at g1 g2
            refine hn _ (k + 1) (Weak.of _ _ [some 9, some 1000000000] (by simp) (by simp) ?_ ?_) (by omega) (by omega)
            · simp -implicitDefEqProofs only [ints, rows, Nat.reduceBEq, wkR, Nat.reduceEqDiff, ↓reduceIte, wrR, next64 h9 (by omega), g1, g2]
            · exact ⟨⟨_, rfl, .refl _⟩, rfl, ⟨_, rfl, .refl _⟩, rfl, trivial⟩
          · rw [if_pos (.inl (by simpa using h0))] at g1 g2
            refine hn _ (k + 1) (Weak.of _ _ [some 9, some 1000000000] (by simp) (by simp) ?_ ?_) (by omega) (by omega)
            · simp -implicitDefEqProofs only [ints, rows, Nat.reduceBEq, wkR, Nat.reduceEqDiff, ↓reduceIte, wrR, next64 h9 (by omega), g1, g2]
            · exact ⟨⟨_, rfl, .refl _⟩, rfl, ⟨_, rfl, .refl _⟩, rfl, trivial⟩
        · simp -implicitDefEqProofs only [go_sem, evR, ints, rows, rat, rats, rbox, nodes, decide_eq_false (show ¬ (k : Int) < (x.ch.length : Int) by omega)]
          refine he _ _ ?_
          simp -implicitDefEqProofs only [go_sem, evR, ints, rows, rat, rats, rbox, nodes]
          have hke : k = x.ch.length := by omega
          have hcl1 : 1 ≤ x.ch.length := ((ndOK_fields (t2 _ _ hx)).2.2.2.2.1 h2).2
          have hgl := argmax_go_lt vs k (by omega)
          have hge : argmax.go k vs = argmax vs := by rw [argmax_eq, hvl, hke]
          rw [made_one, List.length_replicate]
          refine ⟨by omega, by omega, by omega, by omega, by omega, ?_⟩
          rw [show x.ch.take k = x.ch by rw [hke, List.take_length]]
          have hrowA : rows4 (sets g pl).length (x.ch.foldl F B) := by
            refine foldl_inv (rows4 (sets g pl).length) _ _ hBl fun B' c' _ hB' => ?_
            rw [← hF]; exact bestB_rows t2 f _ _ _ _ hB'
          have hslt := setI_lt (pl := pl) hi hown hpd
          have hsl := sets_len g pl t1.2 p2.2
          have hrl1 := hrowA.1
          have hoi := ownL_get hi hpd
          have hol := ownL_length g pl
          refine ⟨_, Weak.open 1000000000 9 500 rfl rfl rfl (by decide) rfl, ?_⟩
          simp -implicitDefEqProofs only [go_sem, evR, ints, rows, rat, rats, List.lookup_cons, beq_self_eq_true, Nat.reduceBEq, rowsO, hoi, wrap64 (n := ((setI g pl i own : Nat) : Int)) (by omega) (by omega), show (((idxs g.nd pl i).length * g.w.length : Nat) : Int) + (own : Int) = ((setI g pl i own : Nat) : Int) by omega]
          refine ⟨by omega, by omega, by omega, by omega, by omega, by omega, ?_⟩
          refine ⟨_, Weak.join2 Try.prog tyOne (sl 125) (sl 126) rfl rfl rfl rfl (by decide) (by simp), ?_⟩
          simp -implicitDefEqProofs only [go_sem, evR, ints, rows, rat, rats]
          have hcn : cntA vs k = vs.getD (argmax vs) 0 := by rw [cntA, if_neg (by omega), hge]
          have hvm : -capV ≤ vs.getD (argmax vs) 0 ∧ vs.getD (argmax vs) 0 ≤ capV := hvb _ (getD_mem 0 (by omega))
          refine ⟨?_, ?_⟩
          · rw [List.map_set, intsO, List.map_set, List.map_replicate, hge]
          · rw [hcn, wrap64 (n := vs.getD (argmax vs) 0 * 60) (by omega) (by omega), Int.mul_comm]
    · have h3 : x.p ≠ pl := by simpa using h3
      have hpo : x.p = 1 - pl := by
        obtain ⟨⟨q1, q2⟩, _⟩ := ndOK_fields (t2 _ _ hx)
        omega
      have hpd : (g.nd.getD i nd0).p = 1 - pl := by rw [hxd]; exact hpo
      generalize hF : (fun (B : List (List Int)) (k : Nat) => bestB g ot pl own f (x.ch.getD k 0).toNat (nextR g ot pl i reach k) (p' + 1 - 1) B) = F at hB0
      generalize hG : (fun k => bestV g ot pl own f (x.ch.getD k 0).toNat (nextR g ot pl i reach k) (p' + 1 - 1)) = G at hV0
      rw [hB0 h2 h3, hV0 h2 h3]
      refine SemC.loopR (σ := Nat) (fun k => St.of [(0, .own 1000000000), (1, .t (.i i)), (2, .t (ints reach)), (3, .t (.i (p' + 1 : Nat))), (19, .t (.i (sumI ((List.range k).map G)))), (144, .t (ints x.ch)), (145, .t (.i x.ch.length)), (146, .t (.i k))] [(1000000000, rbox g ot pl own ((List.range k).foldl F B))]) (fun k => k ≤ x.ch.length) (fun k => x.ch.length - k) 0 (Weak.of _ _ [some 1000000000] (by simp) (by simp) ?_ ?_) (by omega) fun k hk R hn hr he => ?_
      · simp -implicitDefEqProofs only [ints, rows, Nat.reduceBEq, wkR, Nat.reduceEqDiff, ↓reduceIte, wrR, List.range_zero, List.map_nil, show sumI [] = 0 from rfl]
      · exact ⟨⟨_, rfl, .refl _⟩, rfl, trivial⟩
      · rcases Nat.lt_or_ge k x.ch.length with h9 | h9
        · obtain ⟨c, hc⟩ : ∃ c, x.ch[k]? = some c := ⟨_, List.getElem?_eq_getElem h9⟩
          simp -implicitDefEqProofs only [go_sem, evR, ints, rows, rat, rats, rbox, nodes, hc, made_one, decide_eq_true (show (k : Int) < (x.ch.length : Int) by omega)]
          have hnl : (nextR g ot pl i reach k).length = reach.length := nextR_length _ _ _ _ _ _
          refine ⟨by omega, by omega, by omega, by omega, by omega, ?_⟩
          refine SemC.loopR (σ := Nat) (fun b => St.of [(0, .own 1000000000), (1, .t (.i i)), (2, .t (ints reach)), (3, .t (.i (p' + 1 : Nat))), (19, .t (.i (sumI ((List.range k).map G)))), (20, .t (.i k)), (21, .t (.i c)), (22, .own 77), (144, .t (ints x.ch)), (145, .t (.i x.ch.length)), (146, .t (.i k)), (154, .t (ints reach)), (155, .t (.i reach.length)), (156, .t (.i b))] [(77, .arr 1 (filled (nextR g ot pl i reach k) T.i (.i 0) b)), (1000000000, rbox g ot pl own ((List.range k).foldl F B))]) (fun b => b ≤ reach.length) (fun b => reach.length - b) 0 (Weak.of _ _ [some 153, some 1000000000] (by simp) (by simp) ?_ ?_) (by omega) fun b hb R2 hn2 hr2 he2 => ?_
          · simp -implicitDefEqProofs only [ints, rows, Nat.reduceBEq, wkR, Nat.reduceEqDiff, ↓reduceIte, wrR, rbox, nodes]
          · refine ⟨⟨_, rfl, ?_⟩, rfl, ⟨_, rfl, .refl _⟩, rfl, trivial⟩
            rw [filled_zero, hnl]; exact .refl _
          · have hfl := filled_length (nextR g ot pl i reach k) T.i (.i 0) b (by omega)
            rcases Nat.lt_or_ge b reach.length with h8 | h8
            · obtain ⟨y, hy⟩ : ∃ y, reach[b]? = some y := ⟨_, List.getElem?_eq_getElem h8⟩
              obtain ⟨o1, o2, o3⟩ := hot i b hi (by omega) hpd
              obtain ⟨r, hr1⟩ : ∃ r, ot[setI g (1 - pl) i b]? = some r := by
                cases h : ot[setI g (1 - pl) i b]? with
                | some r => exact ⟨r, rfl⟩
                | none =>
                  rw [partsOf, List.getD_eq_getElem?_getD, h, hxd] at o1
                  simp at o1
                  omega
              have hrp : partsOf g ot (1 - pl) i b = r := by rw [partsOf, List.getD_eq_getElem?_getD, hr1]; rfl
              rw [hrp] at o1 o2
              rw [hxd] at o1
              obtain ⟨y2, hy2⟩ : ∃ y2, r[k]? = some y2 := ⟨_, List.getElem?_eq_getElem (by omega)⟩
              have hy2b := o2 y2 (List.mem_of_getElem? hy2)
              have hslt := (List.getElem?_eq_some_iff.1 hr1).1
              have hyb : 0 ≤ y ∧ y ≤ 41990400000 := by
                have h1 := reach_pos hr0 b
                rw [List.getD_eq_getElem?_getD, hy] at h1
                have h2 := pw_pos p'
                have h3 := sumI_nonneg hr0
                have h4 := Int.mul_le_mul_of_nonneg_left (show (1 : Int) ≤ pw p' by omega) h3
                unfold capOK at hcapl
                simp only [Option.getD_some] at h1
                omega
              have hm1 := Int.mul_nonneg hyb.1 hy2b.1
              have hm2 : y * y2 ≤ 41990400000 * 60 := Int.mul_le_mul hyb.2 hy2b.2 hy2b.1 (by decide)
              have hnx : (nextR g ot pl i reach k)[b]? = some (y * y2) := by
                rw [nextR, List.getElem?_map, List.getElem?_range (by omega), Option.map_some, hrp, List.getD_eq_getElem?_getD, hy, List.getD_eq_getElem?_getD, hy2]; rfl
              have hoi := ownL_get hi hpd
              have hol := ownL_length g (1 - pl)
              have hset : setI g (1 - pl) i b = (idxs g.nd (1 - pl) i).length * g.w.length + b := rfl
              have hsl := sets_len g (1 - pl) t1.2 p2.2
              have hsi := setI_lt (g := g) (pl := 1 - pl) hi (show b < g.w.length by omega) hpd
              simp -implicitDefEqProofs only [go_sem, evR, ints, rows, rat, rats, rbox, nodes, hy, hoi, hr1, hy2, hfl, decide_eq_true (show (b : Int) < (reach.length : Int) by omega), wrap64 (n := ((setI g (1 - pl) i b : Nat) : Int)) (by omega) (by omega), show (((idxs g.nd (1 - pl) i).length * g.w.length : Nat) : Int) + (b : Int) = ((setI g (1 - pl) i b : Nat) : Int) by omega]
              refine ⟨by omega, by omega, by omega, by omega, by omega, by omega, by omega, by omega, by omega, by omega, by omega, by omega, by omega, by omega, by omega, hn2 _ (b + 1) (Weak.of _ _ [some 77, some 1000000000] (by simp) (by simp) ?_ ?_) (by omega) (by omega)⟩
              · simp -implicitDefEqProofs only [ints, rows, Nat.reduceBEq, wkR, Nat.reduceEqDiff, ↓reduceIte, wrR, rbox, nodes, next64 h8 (by omega)]
              · refine ⟨⟨_, rfl, ?_⟩, rfl, ⟨_, rfl, .refl _⟩, rfl, trivial⟩
                rw [wrap64 (n := y * y2) (by omega) (by omega), filled_set hnx]; exact .refl _
            · simp -implicitDefEqProofs only [go_sem, evR, ints, rows, rat, rats, rbox, nodes, decide_eq_false (show ¬ (b : Int) < (reach.length : Int) by omega)]
              refine he2 _ _ ?_
              simp -implicitDefEqProofs only [go_sem, evR, ints, rows, rat, rats, rbox, nodes]
              have hbl : b = (nextR g ot pl i reach k).length := by omega
              rw [hbl, filled_all]
              refine ⟨_, Weak.trans (Weak.share 77 rfl) (Weak.of [(0, .own 1000000000), (1, .t (.i i)), (2, .t (ints reach)), (3, .t (.i (p' + 1 : Nat))), (19, .t (.i (sumI ((List.range k).map G)))), (20, .t (.i k)), (21, .t (.i c)), (22, .t (ints (nextR g ot pl i reach k))), (144, .t (ints x.ch)), (145, .t (.i x.ch.length)), (146, .t (.i k))] [(1000000000, rbox g ot pl own ((List.range k).foldl F B))] [some 1000000000] (by simp) (by simp) ?_ ?_), ?_⟩
              · simp -implicitDefEqProofs only [ints, rows, Nat.reduceBEq, wkR, Nat.reduceEqDiff, ↓reduceIte, wrR, shareA, rbox, nodes, T.toSh, T.toShL_eq_map, List.map_map]
                exact .inr (.inl rfl)
              · exact ⟨⟨_, rfl, .refl _⟩, rfl, trivial⟩
              · simp -implicitDefEqProofs only [go_sem, evR, ints, rows, rat, rats, rbox, nodes, hc]
                have hcm := List.mem_of_getElem? hc
                have hcb := hch c hcm
                have hcd := d2 c hcm
                have hcd0 : x.ch.getD k 0 = c := by rw [List.getD_eq_getElem?_getD, hc]; rfl
                have hch1 : ∀ j, j < x.ch.length → -capV ≤ G j ∧ G j ≤ capV := fun j hj => by
                  have hmj := getD_mem (0 : Int) hj
                  have hjb := hch _ hmj
                  have hjd := d2 _ hmj
                  rw [← hG]
                  exact bestV_cap t2 hpl hot (by omega) (by rw [nextR_length]; exact hrl) (nextR_nonneg hot hi hrl hpd hr0 j) (by omega) (capOK_next hot hi hrl hpd hr0 hcap (by rw [hxd]; exact hj))
                have hs1 := sumI_range_abs (G := G) (c := capV) (n := k) fun j hj => hch1 j (by omega)
                have hs2 := hch1 k h9
                have hk4 : (k : Int) * capV ≤ 4 * capV := Int.mul_le_mul_of_nonneg_right (by omega) (by decide)
                have hrow : rows4 (sets g pl).length ((List.range k).foldl F B) := by
                  refine foldl_inv (rows4 (sets g pl).length) _ _ hBl fun B' c' _ hB' => ?_
                  rw [← hF]; exact bestB_rows t2 f _ _ _ _ hB'
                have hcall := ih c.toNat (nextR g ot pl i reach k) p' ((List.range k).foldl F B) (by omega) (by omega) (by omega) (nextR_nonneg hot hi hrl hpd hr0 k) (by omega) (by omega) (capOK_next hot hi hrl hpd hr0 hcap (by rw [hxd]; omega)) hrow
                rw [show ((c.toNat : Nat) : Int) = c by omega, show bestB g ot pl own f c.toNat (nextR g ot pl i reach k) p' ((List.range k).foldl F B) = (List.range (k + 1)).foldl F B by rw [List.range_succ, List.foldl_append, ← hF, List.foldl_cons, List.foldl_nil]; simp only [hcd0, Nat.add_sub_cancel], show bestV g ot pl own f c.toNat (nextR g ot pl i reach k) p' = G k by rw [← hG]; simp only [hcd0, Nat.add_sub_cancel]] at hcall
                have hsg : sumI ((List.range (k + 1)).map G) = sumI ((List.range k).map G) + G k := by rw [List.range_succ, List.map_append, List.map_cons, List.map_nil, sumI_snoc]
                simp only [rbox, nodes, rows, ints] at hcall
                rw [wrap64 (n := ((p' + 1 : Nat) : Int) - 1) (by omega) (by omega), show ((p' + 1 : Nat) : Int) - 1 = (p' : Int) by omega]
                refine CallW.ref hcall [1000000000] [] rfl Try.call182 (by simp) ?_ (by simp) ?_ (.inl rfl) ?_
                · simp -implicitDefEqProofs only [srR, Nat.reduceEqDiff, ↓reduceIte, ints, rows, intsO, rowsO]
                · simp -implicitDefEqProofs only [agR, Nat.reduceLeDiff, Nat.reduceSub, vaR, go_sem, ints, rows, rat, rats, ratsO, rtR, intsO, rowsO]
                simp -implicitDefEqProofs only [clR, Nat.reduceLeDiff, go_sem, evR, rat]
                refine hn _ (k + 1) (Weak.of _ _ [some 1000000000] (by simp) (by simp) ?_ ?_) (by omega) (by omega)
                · simp -implicitDefEqProofs only [ints, rows, Nat.reduceBEq, wkR, Nat.reduceEqDiff, ↓reduceIte, wrR, rbox, nodes, next64 h9 (by omega), hsg, wrap64 (n := sumI ((List.range k).map G) + G k) (by omega) (by omega)]
                · refine ⟨⟨_, rfl, ?_⟩, rfl, trivial⟩
                  rw [List.range_succ]; exact .refl _
        · simp -implicitDefEqProofs only [go_sem, evR, ints, rows, rat, rats, rbox, nodes, decide_eq_false (show ¬ (k : Int) < (x.ch.length : Int) by omega)]
          refine he _ _ ?_
          simp -implicitDefEqProofs only [go_sem, evR, ints, rows, rat, rats]
          rw [show k = x.ch.length by omega]
          exact ⟨rfl, rfl⟩
end
end Go.Ab

/- Contracts: the best number and the first best response, the program's. -/
set_option linter.unusedSimpArgs false
set_option linter.unusedVariables false
namespace Go.Ab
open Go.Proofs

theorem idxs_lt' {l : List Nd} {pl : Int} {j : Nat} {y : Int} (h : (idxs l pl l.length)[j]? = some y) : ∃ i : Nat, y = i ∧ i < l.length := by
  obtain ⟨i, h1, h2, _⟩ := idxs_mem (List.mem_of_getElem? h)
  exact ⟨i, h1, h2⟩
theorem mergeR_at (m : List Nat) (R R' : Nat → Root) (r : Nat) : mergeR m R R' r = if m.any (fun d => decide (r = d) || decide (r / 1000 = d + 1)) then R r else R' r := rfl
def rbox0 (g : Gm) (ot : List (List Int)) (pl : Int) (a b : List Int) : T := .box [nodes g.nd, rows g.w, rows g.v, .i pl, .i 0, intsO a, intsO b, rows ot, .i 0, .v (.slice none 0 0)]
def rbox1 (g : Gm) (ot : List (List Int)) (pl : Int) (B : List (List Int)) : T := .box [nodes g.nd, rows g.w, rows g.v, .i pl, .any, ints (ownL g pl), ints (ownL g (1 - pl)), rows ot, .i pl, rowsO B]
section
attribute [-go_sem] load1C load1V fldC lenC idxC loadNV nilCheckW
set_option maxRecDepth 20000 in
theorem impl_bestAgainst_ok {g : Gm} {ot : List (List Int)} {pl : Int} (hg : isGameB g = true) (hpl : pl = 0 ∨ pl = 1) (hot : partsOK g ot (1 - pl)) : Fun Try.prog 122 [] [.t (gameT g), .t (stratT (1 - pl, ot))] fun o r => o = [] ∧ r = runT g ot pl := by
  obtain ⟨p1, p2, p3, p4, p5⟩ := isGameB_parts hg
  obtain ⟨t1, t2, t3, t4⟩ := isTreeB_spec p1
  obtain ⟨u1, u2, u3, u4, u5, u6, u7⟩ := game_unit hg
  have hsl := sets_len g pl t1.2 p2.2
  have hsl2 := sets_length g pl
  have hrv := runV_abs (n := g.w.length) hg hpl hot
  have hil := idxs_length g.nd pl g.nd.length
  have hil2 := idxs_length g.nd (1 - pl) g.nd.length
  have hmul : ∀ n : Nat, n ≤ g.nd.length → n * g.w.length ≤ 60 * 6 := fun n hn => Nat.mul_le_mul (by omega) p2.2
  refine fun_impl_bestAgainst_h (by simp) ?_
  simp -implicitDefEqProofs only [go_sem, evR, ints, rows, rat, rats, c_impl_bestAgainst_h, gameT, stratT, nodes, made_one]
  rw [wrap64 (n := 1 - (1 - pl)) (by omega) (by omega), show 1 - (1 - pl) = pl by omega]
  refine ⟨by omega, by omega, by omega, by omega, ?_⟩
  refine ⟨?_, ((frameOK.refl _ _ _).upd _ (.inl (by simp))).upd _ (.inl (by simp))⟩
  simp -implicitDefEqProofs only [go_sem, evR, ints, rows, rat, rats, mergeR_at]
  have hoL : ∀ q, ownL g q = fillN (idxs g.nd q g.nd.length) g.w.length g.nd.length (idxs g.nd q g.nd.length).length := fun q => rfl
  have hfl : ∀ q j, (fillN (idxs g.nd q g.nd.length) g.w.length g.nd.length j).length = g.nd.length := fun q j => fillN_length _ _ _ _
  have hfs : ∀ q j (n : Nat), (idxs g.nd q g.nd.length)[j]? = some (n : Int) → fillN (idxs g.nd q g.nd.length) g.w.length g.nd.length (j + 1) = (fillN (idxs g.nd q g.nd.length) g.w.length g.nd.length j).set n ((j * g.w.length : Nat) : Int) := fun q j n h => by
    rw [fillN, List.getD_eq_getElem?_getD, h]; rfl
  refine CallW.res (impl_nodesOf_t g.nd pl (by omega)) [] rfl Try.call181 ?_ (.inl rfl) ?_
  · simp -implicitDefEqProofs only [agR, Nat.reduceLeDiff, Nat.reduceSub, vaR, go_sem, ints, rows, rat, rats, ratsO, rtR, intsO, rowsO]
  simp -implicitDefEqProofs only [clR, Nat.reduceLeDiff, go_sem, evR, rat, intsO, mergeR_at]
  refine SemC.loopR (σ := Nat) (fun j => St.of [(2, .own 2), (3, .own 3), (5, .own 5), (6, .own 6), (7, .t (.i g.w.length)), (42, .own 42), (43, .t (.i (idxs g.nd pl g.nd.length).length)), (44, .t (.i j))] [(2, .box [nodes g.nd, rows g.w, rows g.v]), (3, .box [.i (1 - pl), rows ot]), (5, .box [.i 0, .v (.slice none 0 0)]), (6, rbox0 g ot pl (fillN (idxs g.nd pl g.nd.length) g.w.length g.nd.length j) (List.replicate g.nd.length 0)), (42, intsO (idxs g.nd pl g.nd.length))]) (fun j => j ≤ (idxs g.nd pl g.nd.length).length) (fun j => (idxs g.nd pl g.nd.length).length - j) 0 (Weak.of _ _ [some 2, some 3, some 5, some 6, some 42] (by simp) (by simp) ?_ ?_) (by omega) fun j hj R hn hr he => ?_
  · simp -implicitDefEqProofs only [ints, rows, Nat.reduceBEq, wkR, Nat.reduceEqDiff, ↓reduceIte, wrR, nodes, mergeR_at]
  · refine ⟨⟨_, rfl, .refl _⟩, rfl, ⟨_, rfl, .refl _⟩, rfl, ⟨_, rfl, .refl _⟩, rfl, ⟨_, rfl, ?_⟩, rfl, ⟨_, rfl, .refl _⟩, rfl, trivial⟩
    have e : T.arr 1 (List.replicate g.nd.length (T.v (Value.int IntKind.i64 0))) = intsO (List.replicate g.nd.length 0) := by rw [intsO, List.map_replicate]
    rw [e]; exact .refl _
  · rcases Nat.lt_or_ge j (idxs g.nd pl g.nd.length).length with h9 | h9
    · obtain ⟨y, hy⟩ : ∃ y, (idxs g.nd pl g.nd.length)[j]? = some y := ⟨_, List.getElem?_eq_getElem h9⟩
      obtain ⟨n, rfl, hn1⟩ := idxs_lt' hy
      have hjm := hmul j (by omega)
      simp -implicitDefEqProofs only [go_sem, evR, ints, rows, rat, rats, rbox0, nodes, hy, intsO, decide_eq_true (show (j : Int) < ((idxs g.nd pl g.nd.length).length : Int) by omega), hfl]
      refine ⟨by omega, by omega, by omega, by omega, by omega, by omega, hn _ (j + 1) (Weak.trans (Weak.join2 Try.prog tyOne (sl 49) (sl 50) rfl rfl rfl rfl (by decide) (by simp)) (Weak.of _ _ [some 2, some 3, some 5, some 6, some 42] (by simp) (by simp) ?_ ?_)) (by omega) (by omega)⟩
      · simp -implicitDefEqProofs only [ints, rows, Nat.reduceBEq, wkR, Nat.reduceEqDiff, ↓reduceIte, wrR, nodes, next64 h9 (by omega)]
      · refine ⟨⟨_, rfl, .refl _⟩, rfl, ⟨_, rfl, .refl _⟩, rfl, ⟨_, rfl, .refl _⟩, rfl, ⟨_, rfl, ?_⟩, rfl, ⟨_, rfl, .refl _⟩, rfl, trivial⟩
        rw [hfs _ _ _ hy, rbox0, intsO, List.map_set, wrap64 (n := (j : Int) * (g.w.length : Int)) (by omega) (by omega), ← Int.natCast_mul]; exact .refl _
    · simp -implicitDefEqProofs only [go_sem, evR, ints, rows, rat, rats, rbox0, nodes, intsO, decide_eq_false (show ¬ (j : Int) < ((idxs g.nd pl g.nd.length).length : Int) by omega)]
      refine he _ _ ?_
      simp -implicitDefEqProofs only [go_sem, evR, ints, rows, rat, rats]
      rw [show j = (idxs g.nd pl g.nd.length).length by omega, ← hoL]
      clear hn hr he R
      refine CallW.res (impl_nodesOf_t g.nd (1 - pl) (by omega)) [] rfl Try.call181 ?_ (.inl rfl) ?_
      · simp -implicitDefEqProofs only [agR, Nat.reduceLeDiff, Nat.reduceSub, vaR, go_sem, ints, rows, rat, rats, ratsO, rtR, intsO, rowsO]
      simp -implicitDefEqProofs only [clR, Nat.reduceLeDiff, go_sem, evR, rat, intsO]
      refine SemC.loopR (σ := Nat) (fun j => St.of [(2, .own 2), (3, .own 3), (5, .own 5), (6, .own 6), (7, .t (.i g.w.length)), (61, .own 61), (62, .t (.i (idxs g.nd (1 - pl) g.nd.length).length)), (63, .t (.i j))] [(2, .box [nodes g.nd, rows g.w, rows g.v]), (3, .box [.i (1 - pl), rows ot]), (5, .box [.i 0, .v (.slice none 0 0)]), (6, rbox0 g ot pl (ownL g pl) (fillN (idxs g.nd (1 - pl) g.nd.length) g.w.length g.nd.length j)), (61, intsO (idxs g.nd (1 - pl) g.nd.length))]) (fun j => j ≤ (idxs g.nd (1 - pl) g.nd.length).length) (fun j => (idxs g.nd (1 - pl) g.nd.length).length - j) 0 (Weak.of _ _ [some 2, some 3, some 5, some 6, some 61] (by simp) (by simp) ?_ ?_) (by omega) fun j hj R hn hr he => ?_
      · simp -implicitDefEqProofs only [ints, rows, Nat.reduceBEq, wkR, Nat.reduceEqDiff, ↓reduceIte, wrR, nodes, mergeR_at]
      · refine ⟨⟨_, rfl, .refl _⟩, rfl, ⟨_, rfl, .refl _⟩, rfl, ⟨_, rfl, .refl _⟩, rfl, ⟨_, rfl, .refl _⟩, rfl, ⟨_, rfl, .refl _⟩, rfl, trivial⟩
      · have hol := ownL_length g pl
        rcases Nat.lt_or_ge j (idxs g.nd (1 - pl) g.nd.length).length with h9 | h9
        · obtain ⟨y, hy⟩ : ∃ y, (idxs g.nd (1 - pl) g.nd.length)[j]? = some y := ⟨_, List.getElem?_eq_getElem h9⟩
          obtain ⟨n, rfl, hn1⟩ := idxs_lt' hy
          have hjm := hmul j (by omega)
          simp -implicitDefEqProofs only [go_sem, evR, ints, rows, rat, rats, rbox0, nodes, hy, intsO, decide_eq_true (show (j : Int) < ((idxs g.nd (1 - pl) g.nd.length).length : Int) by omega), hfl]
          refine ⟨by omega, by omega, by omega, by omega, by omega, by omega, hn _ (j + 1) (Weak.trans (Weak.join2 Try.prog tyOne (sl 68) (sl 69) rfl rfl rfl rfl (by decide) (by simp)) (Weak.of _ _ [some 2, some 3, some 5, some 6, some 61] (by simp) (by simp) ?_ ?_)) (by omega) (by omega)⟩
          · simp -implicitDefEqProofs only [ints, rows, Nat.reduceBEq, wkR, Nat.reduceEqDiff, ↓reduceIte, wrR, nodes, next64 h9 (by omega)]
          · refine ⟨⟨_, rfl, .refl _⟩, rfl, ⟨_, rfl, .refl _⟩, rfl, ⟨_, rfl, .refl _⟩, rfl, ⟨_, rfl, ?_⟩, rfl, ⟨_, rfl, .refl _⟩, rfl, trivial⟩
            rw [hfs _ _ _ hy, rbox0, intsO, intsO, List.map_set, wrap64 (n := (j : Int) * (g.w.length : Int)) (by omega) (by omega), ← Int.natCast_mul]; exact .refl _
        · simp -implicitDefEqProofs only [go_sem, evR, ints, rows, rat, rats, rbox0, nodes, intsO, decide_eq_false (show ¬ (j : Int) < ((idxs g.nd (1 - pl) g.nd.length).length : Int) by omega)]
          refine he _ _ ?_
          simp -implicitDefEqProofs only [go_sem, evR, ints, rows, rat, rats]
          rw [show j = (idxs g.nd (1 - pl) g.nd.length).length by omega, ← hoL]
          clear hn hr he R
          have hm1 := hmul (idxs g.nd pl g.nd.length).length (by omega)
          have hm2 : (g.w.length : Int) * ((idxs g.nd pl g.nd.length).length : Int) = ((sets g pl).length : Nat) := by rw [hsl2, Int.natCast_mul, Int.mul_comm]
          refine CallC.res (impl_nodesOf_t g.nd pl (by omega)) [] rfl Try.call181 (fun e R' hR => ?_) (.inl rfl) ?_
          · simp -implicitDefEqProofs only [agR, Nat.reduceLeDiff, Nat.reduceSub, vaR, go_sem, ints, rows, rat, rats, ratsO, rtR, intsO, rowsO]
          simp -implicitDefEqProofs only [clR, Nat.reduceLeDiff, go_sem, evR, rat, intsO, made_one, hm2, wrap64 (n := ((sets g pl).length : Int)) (by omega) (by omega)]
          refine ⟨by omega, by omega, ?_⟩
          refine SemC.loopR (σ := Nat) (fun k => St.of [(2, .own 2), (5, .own 5), (6, .own 6), (7, .t (.i g.w.length)), (12, .t (.i (runV g ot pl k))), (89, .t (.i g.w.length)), (90, .t (.i k))] [(2, .box [nodes g.nd, rows g.w, rows g.v]), (5, .box [.i 0, .v (.slice none 0 0)]), (6, rbox1 g ot pl (runB g ot pl k))]) (fun k => k ≤ g.w.length) (fun k => g.w.length - k) 0 (Weak.trans (Weak.open 6 5 500 rfl rfl rfl (by decide) rfl) (Weak.trans (Weak.shareJoin 6 5 500 rfl rfl (by decide) rfl (by simp)) (Weak.trans (Weak.open 6 6 501 rfl rfl rfl (by decide) rfl) (Weak.trans (Weak.shareJoin 6 6 501 rfl rfl (by decide) rfl (by simp)) (Weak.of _ _ [some 2, some 5, some 6] (by simp) (by simp) ?_ ?_))))) (by omega) fun k hk R hn hr he => ?_
          · simp -implicitDefEqProofs only [ints, rows, Nat.reduceBEq, wkR, Nat.reduceEqDiff, ↓reduceIte, wrR, nodes, mergeR_at, runV, List.range_zero, List.map_nil, sumI, shareA]
          · refine ⟨⟨_, rfl, .refl _⟩, rfl, ⟨_, rfl, .refl _⟩, rfl, ⟨_, rfl, ?_⟩, rfl, trivial⟩
            have e1 : (T.arr 1 (List.map T.i (ownL g pl))).toSh = ints (ownL g pl) := intsO_toSh _
            have e2 : (T.arr 1 (List.map T.i (ownL g (1 - pl)))).toSh = ints (ownL g (1 - pl)) := intsO_toSh _
            rw [e1, e2]
            exact .bc (.refl _) (.bc (.refl _) (.bc (.refl _) (.bc (.refl _) (.bc (.any _) (.bc (.refl _) (.bc (.refl _) (.bc (.refl _) (.bc (.refl _) (.bc (Le.nilRows _) (.refl _))))))))))
          · rcases Nat.lt_or_ge k g.w.length with h9 | h9
            · simp -implicitDefEqProofs only [go_sem, evR, ints, rows, rat, rats, rbox1, nodes, made_one, decide_eq_true (show (k : Int) < (g.w.length : Int) by omega)]
              refine ⟨by omega, by omega, ?_⟩
              have hrl := reach0_length g pl k
              refine SemC.loopR (σ := Nat) (fun b => St.of [(2, .own 2), (5, .own 5), (6, .own 6), (7, .t (.i g.w.length)), (12, .t (.i (runV g ot pl k))), (13, .t (.i k)), (14, .own 77), (89, .t (.i g.w.length)), (90, .t (.i k)), (97, .own 77), (98, .t (.i g.w.length)), (99, .t (.i b))] [(2, .box [nodes g.nd, rows g.w, rows g.v]), (5, .box [.i 0, .v (.slice none 0 0)]), (6, rbox g ot pl k (runB g ot pl k)), (77, .arr 1 (filled (reach0 g pl k) T.i (.i 0) b))]) (fun b => b ≤ g.w.length) (fun b => g.w.length - b) 0 (Weak.of _ _ [some 2, some 5, some 6, some 96] (by simp) (by simp) ?_ ?_) (by omega) fun b hb R2 hn2 hr2 he2 => ?_
              · simp -implicitDefEqProofs only [ints, rows, Nat.reduceBEq, wkR, Nat.reduceEqDiff, ↓reduceIte, wrR, nodes, rbox, List.length_replicate]
              · refine ⟨⟨_, rfl, .refl _⟩, rfl, ⟨_, rfl, .refl _⟩, rfl, ⟨_, rfl, .refl _⟩, rfl, ⟨_, rfl, ?_⟩, rfl, trivial⟩
                rw [filled_zero, hrl]; exact .refl _
              · have hfl := filled_length (reach0 g pl k) T.i (.i 0) b (by omega)
                rcases Nat.lt_or_ge b g.w.length with h8 | h8
                · obtain ⟨u, v, r, y, d1, d2, d3, d4, d5, d6, d7⟩ := deal_w hg hpl h9 h8
                  have fin : ∀ S, Weak 139 S (St.of [(2, .own 2), (5, .own 5), (6, .own 6), (7, .t (.i g.w.length)), (12, .t (.i (runV g ot pl k))), (13, .t (.i k)), (14, .own 77), (89, .t (.i g.w.length)), (90, .t (.i k)), (97, .own 77), (98, .t (.i g.w.length)), (99, .t (.i (b + 1 : Nat)))] [(2, .box [nodes g.nd, rows g.w, rows g.v]), (5, .box [.i 0, .v (.slice none 0 0)]), (6, rbox g ot pl k (runB g ot pl k)), (77, .arr 1 (filled (reach0 g pl k) T.i (.i 0) (b + 1)))]) → R2 .normal S := fun S h => hn2 S (b + 1) h (by omega) (by omega)
                  rw [← filled_set d5] at fin
                  clear hn2
                  rcases hpl with rfl | rfl
                  · have d1 : k = u := by have e : (k : Int) = (u : Int) := d1; omega
                    have d2 : b = v := by have e : (b : Int) = (v : Int) := d2; omega
                    subst d1 d2
                    simp -implicitDefEqProofs only [go_sem, evR, ints, rows, rat, rats, rbox, nodes, d3, d4, hfl, decide_eq_true (show (b : Int) < (g.w.length : Int) by omega)]
                    refine ⟨fun _ => ⟨by omega, by omega, by omega, by omega, by omega, by omega, by omega, by omega, by omega, ?_⟩, fun h => absurd h (by decide)⟩
                    · refine fin _ (Weak.of _ _ [some 2, some 5, some 6, some 77] (by simp) (by simp) ?_ ?_)
                      · simp -implicitDefEqProofs only [ints, rows, Nat.reduceBEq, wkR, Nat.reduceEqDiff, ↓reduceIte, wrR, rbox, nodes, next64 h8 (by omega)]
                      · exact ⟨⟨_, rfl, .refl _⟩, rfl, ⟨_, rfl, .refl _⟩, rfl, ⟨_, rfl, .refl _⟩, rfl, ⟨_, rfl, .refl _⟩, rfl, trivial⟩
                  · have d1 : b = u := by have e : (b : Int) = (u : Int) := d1; omega
                    have d2 : k = v := by have e : (k : Int) = (v : Int) := d2; omega
                    subst d1 d2
                    simp -implicitDefEqProofs only [go_sem, evR, ints, rows, rat, rats, rbox, nodes, d3, d4, hfl, decide_eq_true (show (b : Int) < (g.w.length : Int) by omega)]
                    refine ⟨fun h => absurd h (by decide), fun _ => ⟨by omega, by omega, by omega, by omega, by omega, by omega, by omega, by omega, by omega, ?_⟩⟩
                    · refine fin _ (Weak.of _ _ [some 2, some 5, some 6, some 77] (by simp) (by simp) ?_ ?_)
                      · simp -implicitDefEqProofs only [ints, rows, Nat.reduceBEq, wkR, Nat.reduceEqDiff, ↓reduceIte, wrR, rbox, nodes, next64 h8 (by omega)]
                      · exact ⟨⟨_, rfl, .refl _⟩, rfl, ⟨_, rfl, .refl _⟩, rfl, ⟨_, rfl, .refl _⟩, rfl, ⟨_, rfl, .refl _⟩, rfl, trivial⟩
                · simp -implicitDefEqProofs only [go_sem, evR, ints, rows, rat, rats, rbox, nodes, decide_eq_false (show ¬ (b : Int) < (g.w.length : Int) by omega)]
                  refine he2 _ _ ?_
                  simp -implicitDefEqProofs only [go_sem, evR, ints, rows, rat, rats, rbox, nodes]
                  rw [show b = (reach0 g pl k).length by omega, filled_all]
                  refine ⟨_, Weak.trans (Weak.share 77 rfl) (Weak.of [(2, .own 2), (5, .own 5), (6, .own 6), (7, .t (.i g.w.length)), (12, .t (.i (runV g ot pl k))), (13, .t (.i k)), (14, .t (ints (reach0 g pl k))), (89, .t (.i g.w.length)), (90, .t (.i k))] [(2, .box [nodes g.nd, rows g.w, rows g.v]), (5, .box [.i 0, .v (.slice none 0 0)]), (6, rbox g ot pl k (runB g ot pl k))] [some 2, some 5, some 6] (by simp) (by simp) ?_ ?_), ?_⟩
                  · simp -implicitDefEqProofs only [ints, rows, Nat.reduceBEq, wkR, Nat.reduceEqDiff, ↓reduceIte, wrR, shareA, rbox, nodes, T.toSh, T.toShL_eq_map, List.map_map]
                    exact .inr (.inl rfl)
                  · exact ⟨⟨_, rfl, .refl _⟩, rfl, ⟨_, rfl, .refl _⟩, rfl, ⟨_, rfl, .refl _⟩, rfl, trivial⟩
                  · simp -implicitDefEqProofs only [go_sem, evR, ints, rows, rat, rats, rbox, nodes]
                    refine CallW.pure (dep_t (impl_depthFrom_ok t2 (by omega) g.nd.length 0 (by omega) (by omega) (by omega))) [] rfl Try.call164 ?_ (by first | trivial | simp [T.noSh, T.noShL, rat]) rfl ?_
                    · simp -implicitDefEqProofs only [agR, Nat.reduceLeDiff, Nat.reduceSub, vaR, go_sem, ints, rows, rat, rats, ratsO, rtR, intsO, rowsO]
                    simp -implicitDefEqProofs only [go_sem, evR, ints, rows, rat, rats]
                    rw [u2]
                    have hc := cap0 hg pl k
                    have hcall := impl_respond_ok hg hpl hot h9 g.nd.length 0 (reach0 g pl k) (dpt g) (runB g ot pl k) (by omega) (by omega) hrl hc.2 (by rw [dpt_eq]; exact Int.le_refl _) u3 hc.1 (runB_rows t2 ot pl k)
                    rw [← runB_succ] at hcall
                    simp only [rbox, nodes, rows, ints] at hcall
                    have hv1 := runV_abs hg hpl hot k
                    have hv2 := runV_abs hg hpl hot (k + 1)
                    have hcv : capV = 4199040000000 := rfl
                    have hk6 : ((k + 1 : Nat) : Int) * capV ≤ 6 * capV := Int.mul_le_mul_of_nonneg_right (by omega) (by decide)
                    rw [runV_succ] at hv2
                    refine CallW.ref hcall [6] [] rfl Try.call182 (by simp) ?_ (by simp) ?_ (.inl rfl) ?_
                    · simp -implicitDefEqProofs only [srR, Nat.reduceEqDiff, ↓reduceIte, ints, rows, intsO, rowsO]
                    · simp -implicitDefEqProofs only [agR, Nat.reduceLeDiff, Nat.reduceSub, vaR, go_sem, ints, rows, rat, rats, ratsO, rtR, intsO, rowsO]
                    simp -implicitDefEqProofs only [clR, Nat.reduceLeDiff, go_sem, evR, rat]
                    refine hn _ (k + 1) (Weak.of _ _ [some 2, some 5, some 6] (by simp) (by simp) ?_ ?_) (by omega) (by omega)
                    · simp -implicitDefEqProofs only [ints, rows, Nat.reduceBEq, wkR, Nat.reduceEqDiff, ↓reduceIte, wrR, rbox1, nodes, next64 h9 (by omega), wrap64 (n := runV g ot pl k + bestV g ot pl k g.nd.length 0 (reach0 g pl k) (dpt g)) (by omega) (by omega), runV_succ]
                    · refine ⟨⟨_, rfl, .refl _⟩, rfl, ⟨_, rfl, .refl _⟩, rfl, ⟨_, rfl, ?_⟩, rfl, trivial⟩
                      exact .bc (.refl _) (.bc (.refl _) (.bc (.refl _) (.bc (.refl _) (.bc (.any _) (.refl _)))))
            · simp -implicitDefEqProofs only [go_sem, evR, ints, rows, rat, rats, rbox1, nodes, decide_eq_false (show ¬ (k : Int) < (g.w.length : Int) by omega)]
              refine he _ _ ?_
              simp -implicitDefEqProofs only [go_sem, evR, ints, rows, rat, rats]
              refine ⟨_, Weak.open 6 9 500 rfl rfl rfl (by decide) rfl, ?_⟩
              simp -implicitDefEqProofs only [go_sem, evR, ints, rows, rat, rats, List.lookup_cons, beq_self_eq_true, Nat.reduceBEq]
              rw [show k = g.w.length by omega]; rfl
end
end Go.Ab

/- Contracts: pairs of strategies; best numbers, bounds, equilibria, exported. -/
set_option linter.unusedSimpArgs false
set_option linter.unusedVariables false
namespace Go.Ab
open Go.Proofs

theorem strB_parts {g : Gm} {s : Int × List (List Int)} (h : strB g s = true) : isGameB g = true ∧ (s.1 = 0 ∨ s.1 = 1) ∧ isStratB g s.1 s.2 = true := by
  simp only [strB, Bool.and_eq_true, decide_eq_true_eq] at h
  exact ⟨h.1.1, by omega, h.2⟩
theorem strB_run {g : Gm} {s : Int × List (List Int)} (h : strB g s = true) : isGameB g = true ∧ (1 - s.1 = 0 ∨ 1 - s.1 = 1) ∧ partsOK g s.2 (1 - (1 - s.1)) ∧ (1 - (1 - s.1), s.2) = s := by
  obtain ⟨h1, h2, h3⟩ := strB_parts h
  refine ⟨h1, by omega, ?_, ?_⟩
  · rw [show 1 - (1 - s.1) = s.1 by omega]; exact partsOK_of h3
  · rw [show 1 - (1 - s.1) = s.1 by omega]
theorem spec_run {g : Gm} {s : Int × List (List Int)} (h : strB g s = true) : Fun Try.prog 132 [] [.t (.agg [.sh 5 (chunk nodeC g.nd), .sh 1 (g.w.map ints), .sh 1 (g.v.map ints)]), .t (.agg [.i s.1, .sh 1 (s.2.map ints)])] fun o r => o = [] ∧ r = runT g s.2 (1 - s.1) := by
  obtain ⟨h1, h2, h3, h4⟩ := strB_run h
  have := spec_l24Run_ok h1 h2 h3
  rw [h4] at this
  exact this
theorem impl_run {g : Gm} {s : Int × List (List Int)} (h : strB g s = true) : Fun Try.prog 122 [] [.t (.agg [.sh 5 (chunk nodeC g.nd), .sh 1 (g.w.map ints), .sh 1 (g.v.map ints)]), .t (.agg [.i s.1, .sh 1 (s.2.map ints)])] fun o r => o = [] ∧ r = runT g s.2 (1 - s.1) := by
  obtain ⟨h1, h2, h3, h4⟩ := strB_run h
  have := impl_bestAgainst_ok h1 h2 h3
  rw [h4] at this
  exact this
def bestN (g : Gm) (s : Int × List (List Int)) : Int := runV g s.2 (1 - s.1) g.w.length
theorem bestN_abs {g : Gm} {s : Int × List (List Int)} (h : strB g s = true) : -25194240000000 ≤ bestN g s ∧ bestN g s ≤ 25194240000000 := by
  obtain ⟨h1, h2, h3, h4⟩ := strB_run h
  obtain ⟨_, hk, _⟩ := isGameB_spec h1
  have hv := runV_abs h1 h2 h3 g.w.length
  have hcv : capV = 4199040000000 := rfl
  have hk6 : ((g.w.length : Nat) : Int) * capV ≤ 6 * capV := Int.mul_le_mul_of_nonneg_right (by omega) (by decide)
  unfold bestN
  omega
def pairG (g : Gm) (s t : Int × List (List Int)) : Bool := strB g s && strB g t && decide (s.1 = 0) && decide (t.1 = 1)
theorem pairG_parts {g : Gm} {s t : Int × List (List Int)} (h : pairG g s t = true) : strB g s = true ∧ strB g t = true ∧ s.1 = 0 ∧ t.1 = 1 := by
  simp only [pairG, Bool.and_eq_true, decide_eq_true_eq] at h
  exact ⟨h.1.1.1, h.1.1.2, h.1.2, h.2⟩
theorem pairG_iff {g : Gm} {s t : Int × List (List Int)} : pairG g s t = true ↔ isGameB g = true ∧ s.1 = 0 ∧ t.1 = 1 ∧ isStratB g s.1 s.2 = true ∧ isStratB g t.1 t.2 = true := by
  simp only [pairG, strB, Bool.and_eq_true, decide_eq_true_eq]
  constructor
  · rintro ⟨⟨⟨⟨⟨h1, h2⟩, h3⟩, ⟨_, h4⟩, h5⟩, h6⟩, h7⟩
    exact ⟨h1, h6, h7, h3, h5⟩
  · rintro ⟨h1, h2, h3, h4, h5⟩
    exact ⟨⟨⟨⟨⟨h1, by omega⟩, h4⟩, ⟨h1, by omega⟩, h5⟩, h2⟩, h3⟩
theorem pairG_no {g : Gm} {s t : Int × List (List Int)} (h : ¬ (isGameB g = true ∧ s.1 = 0 ∧ t.1 = 1 ∧ isStratB g s.1 s.2 = true ∧ isStratB g t.1 t.2 = true)) : pairG g s t = false := by
  cases hp : pairG g s t with
  | false => rfl
  | true => exact (h (pairG_iff.1 hp)).elim
section
attribute [-go_sem] load1C load1V fldC lenC idxC loadNV nilCheckW
theorem isStr_t {f : FuncId} {g : Gm} {s : Int × List (List Int)} {b : Bool} (h : Pure Try.prog f [gameT g, stratT s] (.b b)) : Pure Try.prog f [.agg [.sh 5 (chunk nodeC g.nd), .sh 1 (g.w.map ints), .sh 1 (g.v.map ints)], .agg [.i s.1, .sh 1 (s.2.map ints)]] (.b b) := h
theorem unit_t {f : FuncId} {g : Gm} {n : Int} (h : Pure Try.prog f [gameT g] (.i n)) : Pure Try.prog f [.agg [.sh 5 (chunk nodeC g.nd), .sh 1 (g.w.map ints), .sh 1 (g.v.map ints)]] (.i n) := h
set_option maxRecDepth 20000 in
theorem spec_l23Pair_ok (g : Gm) (s t : Int × List (List Int)) (hg : gameL g) (hs : rowsL s.2) (ht : rowsL t.2) : Pure Try.prog 123 [gameT g, stratT s, stratT t] (.b (pairG g s t)) := by
  refine fun_spec_l23Pair (by simp) ?_
  have h1 := isStr_t (spec_IsStrategy_ok g s hg hs)
  have h2 := isStr_t (spec_IsStrategy_ok g t hg ht)
  have hdef : pairG g s t = (strB g s && strB g t && decide (s.1 = 0) && decide (t.1 = 1)) := rfl
  simp -implicitDefEqProofs only [go_sem, evR, ints, rows, rat, rats, c_spec_l23Pair, gameT, stratT, nodes]
  cases hb1 : strB g s <;> rw [hb1] at h1
  · refine CallW.pure h1 [] rfl Try.call131 ?_ (by first | trivial | simp [T.noSh, T.noShL, rat]) rfl ?_
    · simp -implicitDefEqProofs only [agR, Nat.reduceLeDiff, Nat.reduceSub, vaR, go_sem, ints, rows, rat, rats, ratsO, rtR, intsO, rowsO]
    simp -implicitDefEqProofs only [go_sem, evR, ints, rows, rat, rats]
    rw [hdef, hb1]; rfl
  · refine CallW.pure h1 [] rfl Try.call131 ?_ (by first | trivial | simp [T.noSh, T.noShL, rat]) rfl ?_
    · simp -implicitDefEqProofs only [agR, Nat.reduceLeDiff, Nat.reduceSub, vaR, go_sem, ints, rows, rat, rats, ratsO, rtR, intsO, rowsO]
    simp -implicitDefEqProofs only [go_sem, evR, ints, rows, rat, rats]
    cases hb2 : strB g t <;> rw [hb2] at h2
    · refine CallW.pure h2 [] rfl Try.call131 ?_ (by first | trivial | simp [T.noSh, T.noShL, rat]) rfl ?_
      · simp -implicitDefEqProofs only [agR, Nat.reduceLeDiff, Nat.reduceSub, vaR, go_sem, ints, rows, rat, rats, ratsO, rtR, intsO, rowsO]
      simp -implicitDefEqProofs only [go_sem, evR, ints, rows, rat, rats]
      rw [hdef, hb1, hb2]; rfl
    · refine CallW.pure h2 [] rfl Try.call131 ?_ (by first | trivial | simp [T.noSh, T.noShL, rat]) rfl ?_
      · simp -implicitDefEqProofs only [agR, Nat.reduceLeDiff, Nat.reduceSub, vaR, go_sem, ints, rows, rat, rats, ratsO, rtR, intsO, rowsO]
      simp -implicitDefEqProofs only [go_sem, evR, ints, rows, rat, rats]
      refine ⟨fun h3 => ?_, fun h3 => ?_⟩
      · have h3 : s.1 = 0 := by simpa using h3
        rw [hdef, hb1, hb2, decide_eq_true h3]
        congr 2
      · have h3 : ¬ s.1 = 0 := by simpa using h3
        rw [hdef, hb1, hb2, decide_eq_false h3]; rfl
set_option maxRecDepth 20000 in
theorem impl_arePair_ok (g : Gm) (s t : Int × List (List Int)) (hg : gameL g) (hs : rowsL s.2) (ht : rowsL t.2) : Pure Try.prog 120 [gameT g, stratT s, stratT t] (.b (pairG g s t)) := by
  refine fun_impl_arePair (by simp) ?_
  have h1 := isGame_t (impl_IsGame_ok g hg)
  simp -implicitDefEqProofs only [go_sem, evR, ints, rows, rat, rats, c_impl_arePair, gameT, stratT, nodes]
  cases hb1 : isGameB g <;> rw [hb1] at h1
  · refine CallW.pure h1 [] rfl Try.call115 ?_ (by first | trivial | simp [T.noSh, T.noShL, rat]) rfl ?_
    · simp -implicitDefEqProofs only [agR, Nat.reduceLeDiff, Nat.reduceSub, vaR, go_sem, ints, rows, rat, rats, ratsO, rtR, intsO, rowsO]
    simp -implicitDefEqProofs only [go_sem, evR, ints, rows, rat, rats]
    rw [pairG_no fun h => by rw [hb1] at h; exact absurd h.1 (by simp)]
  · have h2 := isStr_t (impl_isStrategy_ok g s hb1 hs)
    have h3 := isStr_t (impl_isStrategy_ok g t hb1 ht)
    refine CallW.pure h1 [] rfl Try.call115 ?_ (by first | trivial | simp [T.noSh, T.noShL, rat]) rfl ?_
    · simp -implicitDefEqProofs only [agR, Nat.reduceLeDiff, Nat.reduceSub, vaR, go_sem, ints, rows, rat, rats, ratsO, rtR, intsO, rowsO]
    simp -implicitDefEqProofs only [go_sem, evR, ints, rows, rat, rats]
    refine ⟨fun h4 => ⟨fun h5 => ?_, fun h5 => ?_⟩, fun h4 => ?_⟩
    · have h4 : s.1 = 0 := by simpa using h4
      have h5 : t.1 = 1 := by simpa using h5
      cases hb2 : isStratB g s.1 s.2 <;> rw [hb2] at h2
      · refine CallW.pure h2 [] rfl Try.call153 ?_ (by first | trivial | simp [T.noSh, T.noShL, rat]) rfl ?_
        · simp -implicitDefEqProofs only [agR, Nat.reduceLeDiff, Nat.reduceSub, vaR, go_sem, ints, rows, rat, rats, ratsO, rtR, intsO, rowsO]
        simp -implicitDefEqProofs only [go_sem, evR, ints, rows, rat, rats]
        rw [pairG_no fun h => by rw [hb2] at h; exact absurd h.2.2.2.1 (by simp)]
      · refine CallW.pure h2 [] rfl Try.call153 ?_ (by first | trivial | simp [T.noSh, T.noShL, rat]) rfl ?_
        · simp -implicitDefEqProofs only [agR, Nat.reduceLeDiff, Nat.reduceSub, vaR, go_sem, ints, rows, rat, rats, ratsO, rtR, intsO, rowsO]
        simp -implicitDefEqProofs only [go_sem, evR, ints, rows, rat, rats]
        cases hb3 : isStratB g t.1 t.2 <;> rw [hb3] at h3
        · refine CallW.pure h3 [] rfl Try.call153 ?_ (by first | trivial | simp [T.noSh, T.noShL, rat]) rfl ?_
          · simp -implicitDefEqProofs only [agR, Nat.reduceLeDiff, Nat.reduceSub, vaR, go_sem, ints, rows, rat, rats, ratsO, rtR, intsO, rowsO]
          simp -implicitDefEqProofs only [go_sem, evR, ints, rows, rat, rats]
          rw [pairG_no fun h => by rw [hb3] at h; exact absurd h.2.2.2.2 (by simp)]
        · refine CallW.pure h3 [] rfl Try.call153 ?_ (by first | trivial | simp [T.noSh, T.noShL, rat]) rfl ?_
          · simp -implicitDefEqProofs only [agR, Nat.reduceLeDiff, Nat.reduceSub, vaR, go_sem, ints, rows, rat, rats, ratsO, rtR, intsO, rowsO]
          simp -implicitDefEqProofs only [go_sem, evR, ints, rows, rat, rats]
          rw [pairG_iff.2 ⟨hb1, h4, h5, hb2, hb3⟩]
    · have h5 : ¬ t.1 = 1 := by simpa using h5
      rw [pairG_no fun h => h5 h.2.2.1]
    · have h4 : ¬ s.1 = 0 := by simpa using h4
      rw [pairG_no fun h => h4 h.2.1]
theorem pair_t {f : FuncId} {g : Gm} {s t : Int × List (List Int)} {b : Bool} (h : Pure Try.prog f [gameT g, stratT s, stratT t] (.b b)) : Pure Try.prog f [.agg [.sh 5 (chunk nodeC g.nd), .sh 1 (g.w.map ints), .sh 1 (g.v.map ints)], .agg [.i s.1, .sh 1 (s.2.map ints)], .agg [.i t.1, .sh 1 (t.2.map ints)]] (.b b) := h
set_option maxRecDepth 20000 in
theorem spec_l24Both_ok (g : Gm) (s t : Int × List (List Int)) (h : pairG g s t = true) : Pure Try.prog 124 [gameT g, stratT s, stratT t] (.tup [.i (bestN g t), .i (bestN g s)]) := by
  obtain ⟨h1, h2, _⟩ := pairG_parts h
  refine fun_spec_l24Both (by simp) ?_
  simp -implicitDefEqProofs only [go_sem, evR, ints, rows, rat, rats, c_spec_l24Both, gameT, stratT, nodes]
  refine CallW.res (spec_run h2) [] rfl Try.call132 ?_ (.inl rfl) ?_
  · simp -implicitDefEqProofs only [agR, Nat.reduceLeDiff, Nat.reduceSub, vaR, go_sem, ints, rows, rat, rats, ratsO, rtR, intsO, rowsO]
  simp -implicitDefEqProofs only [clR, Nat.reduceLeDiff, go_sem, evR, rat, runT, rowsO]
  refine CallW.res (spec_run h1) [] rfl Try.call132 ?_ (.inl rfl) ?_
  · simp -implicitDefEqProofs only [agR, Nat.reduceLeDiff, Nat.reduceSub, vaR, go_sem, ints, rows, rat, rats, ratsO, rtR, intsO, rowsO]
  simp -implicitDefEqProofs only [clR, Nat.reduceLeDiff, go_sem, evR, rat, runT, rowsO]
  rfl
set_option maxRecDepth 20000 in
theorem impl_valueBounds_ok (g : Gm) (s t : Int × List (List Int)) (h : pairG g s t = true) : Pure Try.prog 146 [gameT g, stratT s, stratT t] (.tup [.i (-bestN g s), .i (bestN g t)]) := by
  obtain ⟨h1, h2, _⟩ := pairG_parts h
  have b1 := bestN_abs h1
  refine fun_impl_valueBounds (by simp) ?_
  simp -implicitDefEqProofs only [go_sem, evR, ints, rows, rat, rats, c_impl_valueBounds, gameT, stratT, nodes]
  refine CallW.res (impl_run h1) [] rfl Try.call122 ?_ (.inl rfl) ?_
  · simp -implicitDefEqProofs only [agR, Nat.reduceLeDiff, Nat.reduceSub, vaR, go_sem, ints, rows, rat, rats, ratsO, rtR, intsO, rowsO]
  simp -implicitDefEqProofs only [clR, Nat.reduceLeDiff, go_sem, evR, rat, runT, rowsO]
  refine CallW.res (impl_run h2) [] rfl Try.call122 ?_ (.inl rfl) ?_
  · simp -implicitDefEqProofs only [agR, Nat.reduceLeDiff, Nat.reduceSub, vaR, go_sem, ints, rows, rat, rats, ratsO, rtR, intsO, rowsO]
  simp -implicitDefEqProofs only [clR, Nat.reduceLeDiff, go_sem, evR, rat, runT, rowsO]
  rw [show 0 - runV g s.2 (1 - s.1) g.w.length = -bestN g s by unfold bestN; omega, wrap64 (n := -bestN g s) (by omega) (by omega)]; rfl
theorem vb_t {f : FuncId} {g : Gm} {s t : Int × List (List Int)} {r : T} (h : Pure Try.prog f [gameT g, stratT s, stratT t] r) : Pure Try.prog f [.agg [.sh 5 (chunk nodeC g.nd), .sh 1 (g.w.map ints), .sh 1 (g.v.map ints)], .agg [.i s.1, .sh 1 (s.2.map ints)], .agg [.i t.1, .sh 1 (t.2.map ints)]] r := h
def expN (g : Gm) (s t : Int × List (List Int)) : Int := bestN g t + bestN g s
def vbR (g : Gm) (s t : Int × List (List Int)) : Int × Int × Int × Int := if pairG g s t = true then (-bestN g s, bestN g t, unit g, 0) else (0, 0, 0, 1)
def tr4 (r : Int × Int × Int × Int) : T := .tup [.i r.1, .i r.2.1, .i r.2.2.1, .i r.2.2.2]
set_option maxRecDepth 20000 in
theorem spec_ValueBounds_ok (g : Gm) (s t : Int × List (List Int)) (hg : gameL g) (hs : rowsL s.2) (ht : rowsL t.2) : Pure Try.prog 79 [gameT g, stratT s, stratT t] (tr4 (vbR g s t)) := by
  refine fun_spec_ValueBounds (by simp) ?_
  have h1 := pair_t (spec_l23Pair_ok g s t hg hs ht)
  simp -implicitDefEqProofs only [go_sem, evR, ints, rows, rat, rats, c_spec_ValueBounds, gameT, stratT, nodes]
  cases hb : pairG g s t <;> rw [hb] at h1
  · refine CallW.pure h1 [] rfl Try.call123 ?_ (by first | trivial | simp [T.noSh, T.noShL, rat]) rfl ?_
    · simp -implicitDefEqProofs only [agR, Nat.reduceLeDiff, Nat.reduceSub, vaR, go_sem, ints, rows, rat, rats, ratsO, rtR, intsO, rowsO]
    simp -implicitDefEqProofs only [go_sem, evR, ints, rows, rat, rats]
    rw [vbR, hb]; rfl
  · have b1 := bestN_abs (pairG_parts hb).1
    refine CallW.pure h1 [] rfl Try.call123 ?_ (by first | trivial | simp [T.noSh, T.noShL, rat]) rfl ?_
    · simp -implicitDefEqProofs only [agR, Nat.reduceLeDiff, Nat.reduceSub, vaR, go_sem, ints, rows, rat, rats, ratsO, rtR, intsO, rowsO]
    simp -implicitDefEqProofs only [go_sem, evR, ints, rows, rat, rats]
    refine CallW.pure (vb_t (spec_l24Both_ok g s t hb)) [] rfl Try.call124 ?_ (by first | trivial | simp [T.noSh, T.noShL, rat]) rfl ?_
    · simp -implicitDefEqProofs only [agR, Nat.reduceLeDiff, Nat.reduceSub, vaR, go_sem, ints, rows, rat, rats, ratsO, rtR, intsO, rowsO]
    simp -implicitDefEqProofs only [go_sem, evR, ints, rows, rat, rats]
    refine CallW.pure (unit_t (spec_l23Unit_ok g (pairG_iff.1 hb).1)) [] rfl Try.call134 ?_ (by first | trivial | simp [T.noSh, T.noShL, rat]) rfl ?_
    · simp -implicitDefEqProofs only [agR, Nat.reduceLeDiff, Nat.reduceSub, vaR, go_sem, ints, rows, rat, rats, ratsO, rtR, intsO, rowsO]
    simp -implicitDefEqProofs only [go_sem, evR, ints, rows, rat, rats]
    rw [vbR, hb, show 0 - bestN g s = -bestN g s by omega, wrap64 (n := -bestN g s) (by omega) (by omega)]; rfl
def prB (g : Gm) (c : Cl) : Bool := pairG g c.f c.s && decide (-1000000000000000 ≤ c.lo) && decide (c.lo ≤ -bestN g c.f) && decide (bestN g c.s ≤ c.hi) && decide (c.hi ≤ 1000000000000000)
theorem prB_iff {g : Gm} {c : Cl} : prB g c = true ↔ pairG g c.f c.s = true ∧ -1000000000000000 ≤ c.lo ∧ c.lo ≤ -bestN g c.f ∧ bestN g c.s ≤ c.hi ∧ c.hi ≤ 1000000000000000 := by
  simp only [prB, Bool.and_eq_true, decide_eq_true_eq]
  constructor
  · rintro ⟨⟨⟨⟨h1, h2⟩, h3⟩, h4⟩, h5⟩; exact ⟨h1, h2, h3, h4, h5⟩
  · rintro ⟨h1, h2, h3, h4, h5⟩; exact ⟨⟨⟨⟨h1, h2⟩, h3⟩, h4⟩, h5⟩
theorem prB_no {g : Gm} {c : Cl} (h : ¬ (pairG g c.f c.s = true ∧ -1000000000000000 ≤ c.lo ∧ c.lo ≤ -bestN g c.f ∧ bestN g c.s ≤ c.hi ∧ c.hi ≤ 1000000000000000)) : prB g c = false := by
  cases hp : prB g c with
  | false => rfl
  | true => exact (h (prB_iff.1 hp)).elim
set_option maxRecDepth 20000 in
theorem spec_IsProved_ok (g : Gm) (c : Cl) (hg : gameL g) (hf : rowsL c.f.2) (hs : rowsL c.s.2) : Pure Try.prog 198 [gameT g, claimT c] (.b (prB g c)) := by
  refine fun_spec_IsProved (by simp) ?_
  have h1 := vb_t (spec_ValueBounds_ok g c.f c.s hg hf hs)
  simp -implicitDefEqProofs only [go_sem, evR, ints, rows, rat, rats, c_spec_IsProved, gameT, claimT, nodes]
  cases hb : pairG g c.f c.s
  · rw [vbR, hb] at h1
    simp only [tr4, Bool.false_eq_true, if_false] at h1
    refine CallW.pure h1 [] rfl Try.call79 ?_ (by first | trivial | simp [T.noSh, T.noShL, rat]) rfl ?_
    · simp -implicitDefEqProofs only [agR, Nat.reduceLeDiff, Nat.reduceSub, vaR, go_sem, ints, rows, rat, rats, ratsO, rtR, intsO, rowsO]
    simp -implicitDefEqProofs only [go_sem, evR, ints, rows, rat, rats]
    rw [prB_no fun h => by rw [hb] at h; exact absurd h.1 (by simp)]
    exact ⟨fun h => absurd h (by decide), fun _ => rfl⟩
  · rw [vbR, hb] at h1
    simp only [tr4, if_true] at h1
    refine CallW.pure h1 [] rfl Try.call79 ?_ (by first | trivial | simp [T.noSh, T.noShL, rat]) rfl ?_
    · simp -implicitDefEqProofs only [agR, Nat.reduceLeDiff, Nat.reduceSub, vaR, go_sem, ints, rows, rat, rats, ratsO, rtR, intsO, rowsO]
    simp -implicitDefEqProofs only [go_sem, evR, ints, rows, rat, rats]
    refine ⟨fun _ => ⟨fun a1 => ⟨fun a2 => ⟨fun a3 => ?_, fun a3 => ?_⟩, fun a2 => ?_⟩, fun a1 => ?_⟩, fun h => absurd h (by decide)⟩
    · by_cases a4 : c.hi ≤ 1000000000000000
      · rw [decide_eq_true a4, prB_iff.2 ⟨hb, a1, a2, a3, a4⟩]
      · rw [decide_eq_false a4, prB_no fun h => a4 h.2.2.2.2]
    · rw [prB_no fun h => a3 h.2.2.2.1]
    · rw [prB_no fun h => a2 h.2.2.1]
    · rw [prB_no fun h => a1 h.2.1]
set_option maxRecDepth 20000 in
theorem impl_isProved_ok (g : Gm) (c : Cl) (hg : gameL g) (hf : rowsL c.f.2) (hs : rowsL c.s.2) : Pure Try.prog 142 [gameT g, claimT c] (.b (prB g c)) := by
  refine fun_impl_isProved (by simp) ?_
  have h1 := pair_t (impl_arePair_ok g c.f c.s hg hf hs)
  simp -implicitDefEqProofs only [go_sem, evR, ints, rows, rat, rats, c_impl_isProved, gameT, claimT, nodes]
  cases hb : pairG g c.f c.s <;> rw [hb] at h1
  · refine CallW.pure h1 [] rfl Try.call120 ?_ (by first | trivial | simp [T.noSh, T.noShL, rat]) rfl ?_
    · simp -implicitDefEqProofs only [agR, Nat.reduceLeDiff, Nat.reduceSub, vaR, go_sem, ints, rows, rat, rats, ratsO, rtR, intsO, rowsO]
    simp -implicitDefEqProofs only [go_sem, evR, ints, rows, rat, rats]
    rw [prB_no fun h => by rw [hb] at h; exact absurd h.1 (by simp)]
  · refine CallW.pure h1 [] rfl Try.call120 ?_ (by first | trivial | simp [T.noSh, T.noShL, rat]) rfl ?_
    · simp -implicitDefEqProofs only [agR, Nat.reduceLeDiff, Nat.reduceSub, vaR, go_sem, ints, rows, rat, rats, ratsO, rtR, intsO, rowsO]
    simp -implicitDefEqProofs only [go_sem, evR, ints, rows, rat, rats]
    have b1 := bestN_abs (pairG_parts hb).1
    have b2 := bestN_abs (pairG_parts hb).2.1
    have w1 := impl_within_ok c.lo (-1000000000000000) 1000000000000000
    have w2 := impl_within_ok c.hi (-1000000000000000) 1000000000000000
    cases hw1 : decide (-1000000000000000 ≤ c.lo ∧ c.lo ≤ 1000000000000000) <;> rw [hw1] at w1
    · refine CallW.pure w1 [] rfl Try.call110 ?_ (by first | trivial | simp [T.noSh, T.noShL, rat]) rfl ?_
      · simp -implicitDefEqProofs only [agR, Nat.reduceLeDiff, Nat.reduceSub, vaR, go_sem, ints, rows, rat, rats, ratsO, rtR, intsO, rowsO]
      simp -implicitDefEqProofs only [go_sem, evR, ints, rows, rat, rats]
      have hw1 := of_decide_eq_false hw1
      rw [prB_no fun h => hw1 ⟨h.2.1, by have := h.2.2.1; omega⟩]
    · refine CallW.pure w1 [] rfl Try.call110 ?_ (by first | trivial | simp [T.noSh, T.noShL, rat]) rfl ?_
      · simp -implicitDefEqProofs only [agR, Nat.reduceLeDiff, Nat.reduceSub, vaR, go_sem, ints, rows, rat, rats, ratsO, rtR, intsO, rowsO]
      simp -implicitDefEqProofs only [go_sem, evR, ints, rows, rat, rats]
      have hw1 := of_decide_eq_true hw1
      cases hw2 : decide (-1000000000000000 ≤ c.hi ∧ c.hi ≤ 1000000000000000) <;> rw [hw2] at w2
      · refine CallW.pure w2 [] rfl Try.call110 ?_ (by first | trivial | simp [T.noSh, T.noShL, rat]) rfl ?_
        · simp -implicitDefEqProofs only [agR, Nat.reduceLeDiff, Nat.reduceSub, vaR, go_sem, ints, rows, rat, rats, ratsO, rtR, intsO, rowsO]
        simp -implicitDefEqProofs only [go_sem, evR, ints, rows, rat, rats]
        have hw2 := of_decide_eq_false hw2
        rw [prB_no fun h => hw2 ⟨by have := h.2.2.2.1; omega, h.2.2.2.2⟩]
      · refine CallW.pure w2 [] rfl Try.call110 ?_ (by first | trivial | simp [T.noSh, T.noShL, rat]) rfl ?_
        · simp -implicitDefEqProofs only [agR, Nat.reduceLeDiff, Nat.reduceSub, vaR, go_sem, ints, rows, rat, rats, ratsO, rtR, intsO, rowsO]
        simp -implicitDefEqProofs only [go_sem, evR, ints, rows, rat, rats]
        have hw2 := of_decide_eq_true hw2
        refine CallW.pure (vb_t (impl_valueBounds_ok g c.f c.s hb)) [] rfl Try.call146 ?_ (by first | trivial | simp [T.noSh, T.noShL, rat]) rfl ?_
        · simp -implicitDefEqProofs only [agR, Nat.reduceLeDiff, Nat.reduceSub, vaR, go_sem, ints, rows, rat, rats, ratsO, rtR, intsO, rowsO]
        simp -implicitDefEqProofs only [go_sem, evR, ints, rows, rat, rats]
        refine ⟨fun a2 => ?_, fun a2 => ?_⟩
        · by_cases a3 : c.hi ≥ bestN g c.s
          · rw [decide_eq_true a3, prB_iff.2 ⟨hb, hw1.1, a2, a3, hw2.2⟩]
          · rw [decide_eq_false a3, prB_no fun h => a3 h.2.2.2.1]
        · rw [prB_no fun h => a2 h.2.2.1]
set_option maxRecDepth 20000 in
theorem impl_IsProved_ok (g : Gm) (c : Cl) (hg : gameL g) (hf : rowsL c.f.2) (hs : rowsL c.s.2) : Pure Try.prog 76 [gameT g, claimT c] (.b (prB g c)) := by
  refine fun_impl_IsProved (by simp) ?_
  have h1 := isGame_t (impl_IsGame_ok g hg)
  have h2 := impl_isProved_ok g c hg hf hs
  simp only [gameT, claimT, nodes, rows] at h2
  simp -implicitDefEqProofs only [go_sem, evR, ints, rows, rat, rats, c_impl_IsProved, gameT, claimT, nodes]
  cases hb1 : isGameB g <;> rw [hb1] at h1
  · refine CallW.pure h1 [] rfl Try.call115 ?_ (by first | trivial | simp [T.noSh, T.noShL, rat]) rfl ?_
    · simp -implicitDefEqProofs only [agR, Nat.reduceLeDiff, Nat.reduceSub, vaR, go_sem, ints, rows, rat, rats, ratsO, rtR, intsO, rowsO]
    simp -implicitDefEqProofs only [go_sem, evR, ints, rows, rat, rats]
    rw [prB_no fun h => by have := (pairG_iff.1 h.1).1; rw [hb1] at this; exact absurd this (by simp)]
  · refine CallW.pure h1 [] rfl Try.call115 ?_ (by first | trivial | simp [T.noSh, T.noShL, rat]) rfl ?_
    · simp -implicitDefEqProofs only [agR, Nat.reduceLeDiff, Nat.reduceSub, vaR, go_sem, ints, rows, rat, rats, ratsO, rtR, intsO, rowsO]
    simp -implicitDefEqProofs only [go_sem, evR, ints, rows, rat, rats]
    refine CallW.pure h2 [] rfl Try.call142 ?_ (by first | trivial | simp [T.noSh, T.noShL, rat]) rfl ?_
    · simp -implicitDefEqProofs only [agR, Nat.reduceLeDiff, Nat.reduceSub, vaR, go_sem, ints, rows, rat, rats, ratsO, rtR, intsO, rowsO]
    simp -implicitDefEqProofs only [go_sem, evR, ints, rows, rat, rats]
def clCode (g : Gm) (c : Cl) : Int := if isGameB g = false then 1 else if prB g c = false then 5 else 0
set_option maxRecDepth 20000 in
theorem spec_l28Code_ok (g : Gm) (c : Cl) (hg : gameL g) (hf : rowsL c.f.2) (hs : rowsL c.s.2) : Pure Try.prog 144 [gameT g, claimT c] (.i (clCode g c)) := by
  refine fun_spec_l28Code (by simp) ?_
  have h1 := isGame_t (spec_IsGame_ok g hg)
  have h2 := spec_IsProved_ok g c hg hf hs
  simp only [gameT, claimT, nodes, rows] at h2
  simp -implicitDefEqProofs only [go_sem, evR, ints, rows, rat, rats, c_spec_l28Code, gameT, claimT, nodes]
  cases hb1 : isGameB g <;> rw [hb1] at h1
  · refine CallW.pure h1 [] rfl Try.call139 ?_ (by first | trivial | simp [T.noSh, T.noShL, rat]) rfl ?_
    · simp -implicitDefEqProofs only [agR, Nat.reduceLeDiff, Nat.reduceSub, vaR, go_sem, ints, rows, rat, rats, ratsO, rtR, intsO, rowsO]
    simp -implicitDefEqProofs only [go_sem, evR, ints, rows, rat, rats]
    rw [clCode, hb1]; rfl
  · refine CallW.pure h1 [] rfl Try.call139 ?_ (by first | trivial | simp [T.noSh, T.noShL, rat]) rfl ?_
    · simp -implicitDefEqProofs only [agR, Nat.reduceLeDiff, Nat.reduceSub, vaR, go_sem, ints, rows, rat, rats, ratsO, rtR, intsO, rowsO]
    simp -implicitDefEqProofs only [go_sem, evR, ints, rows, rat, rats]
    cases hb2 : prB g c <;> rw [hb2] at h2
    · refine CallW.pure h2 [] rfl Try.call198 ?_ (by first | trivial | simp [T.noSh, T.noShL, rat]) rfl ?_
      · simp -implicitDefEqProofs only [agR, Nat.reduceLeDiff, Nat.reduceSub, vaR, go_sem, ints, rows, rat, rats, ratsO, rtR, intsO, rowsO]
      simp -implicitDefEqProofs only [go_sem, evR, ints, rows, rat, rats]
      rw [clCode, hb1, hb2]; rfl
    · refine CallW.pure h2 [] rfl Try.call198 ?_ (by first | trivial | simp [T.noSh, T.noShL, rat]) rfl ?_
      · simp -implicitDefEqProofs only [agR, Nat.reduceLeDiff, Nat.reduceSub, vaR, go_sem, ints, rows, rat, rats, ratsO, rtR, intsO, rowsO]
      simp -implicitDefEqProofs only [go_sem, evR, ints, rows, rat, rats]
      rw [clCode, hb1, hb2]; rfl
def wdR (g : Gm) (c : Cl) : Int × Int := if clCode g c = 0 then (c.hi - c.lo, 0) else (0, clCode g c)
def tr2 (r : Int × Int) : T := .tup [.i r.1, .i r.2]
theorem clCode_zero {g : Gm} {c : Cl} : clCode g c = 0 ↔ isGameB g = true ∧ prB g c = true := by
  unfold clCode
  cases isGameB g <;> cases prB g c <;> simp
set_option maxRecDepth 20000 in
theorem spec_WidthOf_ok (g : Gm) (c : Cl) (hg : gameL g) (hf : rowsL c.f.2) (hs : rowsL c.s.2) : Pure Try.prog 74 [gameT g, claimT c] (tr2 (wdR g c)) := by
  refine fun_spec_WidthOf (by simp) ?_
  have h2 := spec_l28Code_ok g c hg hf hs
  simp only [gameT, claimT, nodes, rows] at h2
  simp -implicitDefEqProofs only [go_sem, evR, ints, rows, rat, rats, c_spec_WidthOf, gameT, claimT, nodes]
  refine CallW.pure h2 [] rfl Try.call144 ?_ (by first | trivial | simp [T.noSh, T.noShL, rat]) rfl ?_
  · simp -implicitDefEqProofs only [agR, Nat.reduceLeDiff, Nat.reduceSub, vaR, go_sem, ints, rows, rat, rats, ratsO, rtR, intsO, rowsO]
  simp -implicitDefEqProofs only [go_sem, evR, ints, rows, rat, rats]
  refine ⟨fun h => ?_, fun h => ?_⟩
  · have h : ¬ clCode g c = 0 := by simpa using h
    rw [wdR, if_neg h]; rfl
  · have h : clCode g c = 0 := by simpa using h
    obtain ⟨a1, a2⟩ := clCode_zero.1 h
    obtain ⟨p1, p2, p3, p4, p5⟩ := prB_iff.1 a2
    have b1 := bestN_abs (pairG_parts p1).1
    have b2 := bestN_abs (pairG_parts p1).2.1
    rw [wdR, if_pos h, wrap64 (n := c.hi - c.lo) (by omega) (by omega)]; rfl
set_option maxRecDepth 20000 in
theorem impl_WidthOf_ok (g : Gm) (c : Cl) (hg : gameL g) (hf : rowsL c.f.2) (hs : rowsL c.s.2) : Pure Try.prog 73 [gameT g, claimT c] (tr2 (wdR g c)) := by
  refine fun_impl_WidthOf (by simp) ?_
  have h1 := isGame_t (impl_IsGame_ok g hg)
  have h2 := impl_isProved_ok g c hg hf hs
  simp only [gameT, claimT, nodes, rows] at h2
  simp -implicitDefEqProofs only [go_sem, evR, ints, rows, rat, rats, c_impl_WidthOf, gameT, claimT, nodes]
  cases hb1 : isGameB g <;> rw [hb1] at h1
  · refine CallW.pure h1 [] rfl Try.call115 ?_ (by first | trivial | simp [T.noSh, T.noShL, rat]) rfl ?_
    · simp -implicitDefEqProofs only [agR, Nat.reduceLeDiff, Nat.reduceSub, vaR, go_sem, ints, rows, rat, rats, ratsO, rtR, intsO, rowsO]
    simp -implicitDefEqProofs only [go_sem, evR, ints, rows, rat, rats]
    rw [wdR, clCode, hb1]; rfl
  · refine CallW.pure h1 [] rfl Try.call115 ?_ (by first | trivial | simp [T.noSh, T.noShL, rat]) rfl ?_
    · simp -implicitDefEqProofs only [agR, Nat.reduceLeDiff, Nat.reduceSub, vaR, go_sem, ints, rows, rat, rats, ratsO, rtR, intsO, rowsO]
    simp -implicitDefEqProofs only [go_sem, evR, ints, rows, rat, rats]
    cases hb2 : prB g c <;> rw [hb2] at h2
    · refine CallW.pure h2 [] rfl Try.call142 ?_ (by first | trivial | simp [T.noSh, T.noShL, rat]) rfl ?_
      · simp -implicitDefEqProofs only [agR, Nat.reduceLeDiff, Nat.reduceSub, vaR, go_sem, ints, rows, rat, rats, ratsO, rtR, intsO, rowsO]
      simp -implicitDefEqProofs only [go_sem, evR, ints, rows, rat, rats]
      rw [wdR, clCode, hb1, hb2]; rfl
    · obtain ⟨p1, p2, p3, p4, p5⟩ := prB_iff.1 hb2
      have b1 := bestN_abs (pairG_parts p1).1
      have b2 := bestN_abs (pairG_parts p1).2.1
      refine CallW.pure h2 [] rfl Try.call142 ?_ (by first | trivial | simp [T.noSh, T.noShL, rat]) rfl ?_
      · simp -implicitDefEqProofs only [agR, Nat.reduceLeDiff, Nat.reduceSub, vaR, go_sem, ints, rows, rat, rats, ratsO, rtR, intsO, rowsO]
      simp -implicitDefEqProofs only [go_sem, evR, ints, rows, rat, rats]
      rw [wdR, if_pos (clCode_zero.2 ⟨hb1, hb2⟩), wrap64 (n := c.hi - c.lo) (by omega) (by omega)]; rfl
end
end Go.Ab

/- Contracts: copies of games, strategies and claims, and when they are equal. -/
set_option linter.unusedSimpArgs false
set_option linter.unusedVariables false
namespace Go.Ab
open Go.Proofs

section
attribute [-go_sem] load1C load1V fldC lenC idxC loadNV
def rows12 (m : List (List Int)) : Prop := m.length ≤ 1000000000000 ∧ ∀ r ∈ m, r.length ≤ 1000000000000
end
end Go.Ab

/- Sizes of games, strategies and claims behind the laws' budgets. -/
set_option linter.unusedSimpArgs false
set_option linter.unusedVariables false
namespace Go.Ab
open Go.Proofs

def rowsS (m : List (List Int)) : Prop := m.length ≤ 1048576 ∧ tot m ≤ 1048576
theorem rowsS_12 {m : List (List Int)} (h : rowsS m) : rows12 m := ⟨by have := h.1; omega, fun r hr => by have := tot_mem hr; have := h.2; omega⟩
theorem rowsS_L {m : List (List Int)} (h : rowsS m) : rowsL m := ⟨by have := h.1; omega, fun r hr => by have := tot_mem hr; have := h.2; omega⟩
end Go.Ab

/- Functions in compact form, with hints. -/
set_option linter.unusedVariables false
namespace Go.Ab
open Go.Proofs

def c_impl_JoinClaims_h : CC :=
 (.seq (.reg [.o (.box 3 (sl 0)),
 .o (.box 4 (sl 1)),
 .o (.box 5 (sl 2)),
 .o (.alloc 6 [.v (.int .i64 0), .v (.slice none 0 0), .v (.int .i64 0), .v (.slice none 0 0), .v (.int .i64 0), .v (.int .i64 0)]),
 .o (.move 7 (ci 0))])
 ((.seq (.seq (.reg [.o (.loadN 8 3 (sl 3)),
 .o (.call (some 9) (cf 115) [(sl 8)]),
 .o (.un 10 .not (sl 9))])
 ((.cond (sl 10) (.seq (.reg [.o (.build 11 [.v (.int .i64 0), .v (.slice none 0 0), .v (.int .i64 0), .v (.slice none 0 0), .v (.int .i64 0), .v (.int .i64 0)] [(0, 2), (2, 2), (4, 1), (5, 1)] []),
 .o (.store 6 (sl 6) (sl 11)),
 .o (.move 7 (ci 1))])
 (.ret))
 .skip)))
 ((.seq (.seq (.reg [.o (.loadN 12 3 (sl 3)),
 .o (.loadN 13 6 (sl 4)),
 .o (.call (some 14) (cf 142) [(sl 12), (sl 13)]),
 .o (.un 15 .not (sl 14)),
 .o (.move 16 (sl 15)),
 .g 16 false (some 17) (.loadN 17 3 (sl 3)),
 .g 16 false (some 18) (.loadN 18 6 (sl 5)),
 .g 16 false (some 19) (.call (some 19) (cf 142) [(sl 17), (sl 18)]),
 .g 16 false (some 20) (.un 20 .not (sl 19)),
 .o (.pick 21 (sl 16) (cb true) (sl 20))])
 ((.cond (sl 21) (.seq (.reg [.o (.build 22 [.v (.int .i64 0), .v (.slice none 0 0), .v (.int .i64 0), .v (.slice none 0 0), .v (.int .i64 0), .v (.int .i64 0)] [(0, 2), (2, 2), (4, 1), (5, 1)] []),
 .o (.store 6 (sl 6) (sl 22)),
 .o (.move 7 (ci 5))])
 (.ret))
 .skip)))
 ((.seq (.seq (.reg [.o (.fld 23 4 (sl 5)),
 .o (.load1 24 (sl 23)),
 .o (.fld 25 4 (sl 4)),
 .o (.load1 26 (sl 25)),
 .o (.bin 27 .gtr (sl 24) (sl 26))])
 ((.cond (sl 27) (.draw [] [(kR, .o (.fld 28 0 (sl 5))),
 (kR, .o (.loadN 29 2 (sl 28))),
 (.r false [4], .o (.fld 30 4 (sl 5))),
 (.r false [4], .o (.load1 31 (sl 30))),
 (kR, .o (.fld 32 0 (sl 4))),
 (.h (some [4]) [], .o (.store 2 (sl 32) (sl 29))),
 (kR, .o (.fld 33 4 (sl 4))),
 (kH, .o (.store 1 (sl 33) (sl 31)))])
 .skip)))
 ((.seq (.seq (.reg [.o (.fld 34 5 (sl 5)),
 .o (.load1 35 (sl 34)),
 .o (.fld 36 5 (sl 4)),
 .o (.load1 37 (sl 36)),
 .o (.bin 38 .lss (sl 35) (sl 37))])
 ((.cond (sl 38) (.draw [] [(kR, .o (.fld 39 2 (sl 5))),
 (kR, .o (.loadN 40 2 (sl 39))),
 (.r false [4], .o (.fld 41 5 (sl 5))),
 (.r false [4], .o (.load1 42 (sl 41))),
 (kR, .o (.fld 43 2 (sl 4))),
 (.h (some [4]) [], .o (.store 2 (sl 43) (sl 40))),
 (kR, .o (.fld 44 5 (sl 4))),
 (kH, .o (.store 1 (sl 44) (sl 42)))])
 .skip)))
 ((.seq (.draw [47, 50] [(kR, .o (.fld 45 0 (sl 4))),
 (kR, .o (.loadN 46 2 (sl 45))),
 (.c false [], .o (.call (some 47) (cf 143) [(sl 46)])),
 (.r false [47], .o (.fld 48 2 (sl 4))),
 (.r false [47], .o (.loadN 49 2 (sl 48))),
 (.c false [], .o (.call (some 50) (cf 143) [(sl 49)])),
 (.r false [50], .o (.fld 51 0 (sl 4))),
 (kH, .o (.store 2 (sl 51) (sl 47))),
 (kR, .o (.fld 52 2 (sl 4))),
 (kH, .o (.store 2 (sl 52) (sl 50)))])
 ((.seq (.reg [.o (.loadN 53 6 (sl 4)),
 .o (.store 6 (sl 6) (sl 53)),
 .o (.move 7 (ci 0))])
 (.ret))))))))))))))
theorem fun_impl_JoinClaims_h {rin : List T} {args : List A} {Q : List T → T → Prop} (ha : args.length ≤ 54) (h : cW Try.prog 54 c_impl_JoinClaims_h (retP Try.prog [.cell 6 75, .tmp 7] rin.length Q) (St.of (enum 0 args) (enum 1000000000 rin))) :
    Fun Try.prog 70 rin args Q :=
  Fun.of (H := ⟨[(6, 2, .r false [4]), (6, 3, .r false [4]), (6, 5, .h (some [4]) []), (8, 2, .r false [4]), (8, 3, .r false [4]), (8, 5, .h (some [4]) [])], []⟩) Try.func70 rfl rfl rfl (by kernel_rfl) ha (by decide) h

end Go.Ab

/- Contracts: copies of strategies; responses in turn; claims made and joined. -/
set_option linter.unusedSimpArgs false
set_option linter.unusedVariables false
namespace Go.Ab
open Go.Proofs

section
attribute [-go_sem] load1C load1V fldC lenC idxC loadNV nilCheckW
set_option maxRecDepth 20000 in
theorem spec_l24Own_ok (s : Int × List (List Int)) (hs : rows12 s.2) : Fun Try.prog 145 [] [.t (stratT s)] fun o r => o = [] ∧ r = stratO s := by
  obtain ⟨p, m⟩ := s
  obtain ⟨h1, h2⟩ := hs
  (try simp only [] at h1 h2)
  refine fun_spec_l24Own (by simp) ?_
  simp -implicitDefEqProofs only [go_sem, evR, ints, rows, rat, rats, c_spec_l24Own, stratT]
  refine SemC.loopR (σ := Nat) (fun i => St.of [(1, .own 1), (2, .own 2), (3, .own 77), (4, .t (.i i))] [(1, .box [.i p, rows m]), (2, .box [.i 0, .v (.slice none 0 0)]), (77, rowsO (m.take i))]) (fun i => i ≤ m.length) (fun i => m.length - i) 0 (Weak.of _ _ [some 1, some 2, some 5] (by simp) (by simp) ?_ ?_) (by omega) fun i hi R hn hr he => ?_
  · simp -implicitDefEqProofs only [ints, rows, Nat.reduceBEq, wkR, Nat.reduceEqDiff, ↓reduceIte, wrR, List.take_zero]
  · exact ⟨⟨_, rfl, .refl _⟩, rfl, ⟨_, rfl, .refl _⟩, rfl, ⟨_, rfl, .refl _⟩, rfl, trivial⟩
  · rcases Nat.lt_or_ge i m.length with h9 | h9
    · obtain ⟨r, hr1⟩ : ∃ r, m[i]? = some r := ⟨_, List.getElem?_eq_getElem h9⟩
      simp -implicitDefEqProofs only [go_sem, evR, ints, rows, rat, rats, rowsO, hr1, decide_eq_true (show (i : Int) < (m.length : Int) by omega)]
      refine ⟨by omega, by omega, by omega, ?_⟩
      refine CallW.res (spec_l01Own_ok r (h2 r (List.mem_of_getElem? hr1))) [] rfl Try.call167 ?_ (.inl rfl) ?_
      · simp -implicitDefEqProofs only [agR, Nat.reduceLeDiff, Nat.reduceSub, vaR, go_sem, ints, rows, rat, rats, ratsO, rtR, intsO, rowsO]
      simp -implicitDefEqProofs only [clR, Nat.reduceLeDiff, go_sem, evR, rat, intsO]
      refine ⟨by rw [List.length_take]; omega, hn _ (i + 1) (Weak.of _ _ [some 1, some 2, some 21] (by simp) (by simp) ?_ ?_) (by omega) (by omega)⟩
      · simp -implicitDefEqProofs only [ints, rows, Nat.reduceBEq, wkR, Nat.reduceEqDiff, ↓reduceIte, wrR, next64 h9 (by omega)]
      · refine ⟨⟨_, rfl, .refl _⟩, rfl, ⟨_, rfl, .refl _⟩, rfl, ⟨_, rfl, ?_⟩, rfl, trivial⟩
        rw [take_snoc hr1, rowsO, List.map_append]; exact .refl _
    · simp -implicitDefEqProofs only [go_sem, evR, ints, rows, rat, rats, rowsO, decide_eq_false (show ¬ (i : Int) < (m.length : Int) by omega)]
      refine he _ _ ?_
      simp -implicitDefEqProofs only [go_sem, evR, ints, rows, rat, rats]
      rw [List.take_of_length_le (show m.length ≤ i by omega)]; rfl
set_option maxRecDepth 20000 in
theorem impl_cloneStrategy_ok (s : Int × List (List Int)) (hs : rows12 s.2) : Fun Try.prog 143 [] [.t (stratT s)] fun o r => o = [] ∧ r = stratO s := by
  obtain ⟨p, m⟩ := s
  obtain ⟨h1, h2⟩ := hs
  (try simp only [] at h1 h2)
  refine fun_impl_cloneStrategy (by simp) ?_
  simp -implicitDefEqProofs only [go_sem, evR, ints, rows, rat, rats, c_impl_cloneStrategy, stratT]
  refine SemC.loopR (σ := Nat) (fun i => St.of [(2, .own 2), (3, .own 3), (10, .t (rows m)), (11, .t (.i m.length)), (12, .t (.i i))] [(2, .box [.i 0, .v (.slice none 0 0)]), (3, .box [.i p, rowsO (m.take i)])]) (fun i => i ≤ m.length) (fun i => m.length - i) 0 (Weak.of _ _ [some 2, some 3] (by simp) (by simp) ?_ ?_) (by omega) fun i hi R hn hr he => ?_
  · simp -implicitDefEqProofs only [ints, rows, Nat.reduceBEq, wkR, Nat.reduceEqDiff, ↓reduceIte, wrR, List.take_zero]
  · refine ⟨⟨_, rfl, .refl _⟩, rfl, ⟨_, rfl, ?_⟩, rfl, trivial⟩
    exact .bc (.refl _) (.bc (.nilArr 1) (.refl _))
  · rcases Nat.lt_or_ge i m.length with h9 | h9
    · obtain ⟨r, hr1⟩ : ∃ r, m[i]? = some r := ⟨_, List.getElem?_eq_getElem h9⟩
      simp -implicitDefEqProofs only [go_sem, evR, ints, rows, rat, rats, rowsO, hr1, decide_eq_true (show (i : Int) < (m.length : Int) by omega)]
      refine ⟨by omega, by omega, by omega, ?_⟩
      refine ⟨_, Weak.open 3 1 500 rfl rfl rfl (by decide) rfl, ?_⟩
      simp -implicitDefEqProofs only [go_sem, evR, ints, rows, rat, rats, List.lookup_cons, beq_self_eq_true, Nat.reduceBEq]
      refine CallC.res (slices_Clone_ok r (h2 r (List.mem_of_getElem? hr1))) [] rfl Try.call197 (fun e R' hR => ?_) (.inl rfl) ?_
      · simp -implicitDefEqProofs only [agR, Nat.reduceLeDiff, Nat.reduceSub, vaR, go_sem, ints, rows, rat, rats, ratsO, rtR, intsO, rowsO]
      simp -implicitDefEqProofs only [clR, Nat.reduceLeDiff, go_sem, evR, rat, intsO]
      refine ⟨⟨by rw [List.length_take]; omega, hn _ (i + 1) (Weak.of _ _ [some 2, some 3] (by simp) (by simp) ?_ ?_) (by omega) (by omega)⟩, by repeat first | exact frameOK.refl _ _ _ | refine frameOK.upd _ ?_ (.inr rfl) | refine frameOK.upd _ ?_ (.inl (by decide))⟩
      · simp -implicitDefEqProofs only [ints, rows, Nat.reduceBEq, wkR, Nat.reduceEqDiff, ↓reduceIte, wrR, next64 h9 (by omega)]
      · refine ⟨⟨_, rfl, .refl _⟩, rfl, ⟨_, rfl, ?_⟩, rfl, trivial⟩
        rw [take_snoc hr1, rowsO, List.map_append]; exact .refl _
    · simp -implicitDefEqProofs only [go_sem, evR, ints, rows, rat, rats, rowsO, decide_eq_false (show ¬ (i : Int) < (m.length : Int) by omega)]
      refine he _ _ ?_
      simp -implicitDefEqProofs only [go_sem, evR, ints, rows, rat, rats, opR, Nat.reduceBEq]
      rw [List.take_of_length_le (show m.length ≤ i by omega)]; rfl
theorem own_t {f : FuncId} {s : Int × List (List Int)} (h : Fun Try.prog f [] [.t (stratT s)] fun o r => o = [] ∧ r = stratO s) : Fun Try.prog f [] [.t (.agg [.i s.1, .sh 1 (s.2.map ints)])] fun o r => o = [] ∧ r = .agg [.i s.1, .arr 1 (s.2.map intsO)] := h
def mcO (r : Cl × Int) : T := .tup [.agg [.i r.1.f.1, rowsO r.1.f.2, .i r.1.s.1, rowsO r.1.s.2, .i r.1.lo, .i r.1.hi], .i r.2]
theorem mcO_noSh (r : Cl × Int) : (mcO r).noSh := ⟨⟨trivial, rowsO_noSh _, trivial, rowsO_noSh _, trivial, trivial, trivial⟩, trivial, trivial⟩
def clZ : Cl := ⟨(0, []), (0, []), 0, 0⟩
theorem mcZ (c : Int) : Le (.tup [.agg [.i 0, .v (.slice none 0 0), .i 0, .v (.slice none 0 0), .i 0, .i 0], .i c]) (mcO (clZ, c)) := by
  refine .tup2 (.agg rfl fun i h h' => ?_) (.refl _)
  match i with
  | 0 => exact .refl _
  | 1 => exact .nilArr 1
  | 2 => exact .refl _
  | 3 => exact .nilArr 1
  | 4 => exact .refl _
  | 5 => exact .refl _
def mcR (g : Gm) (s t : Int × List (List Int)) : Cl × Int := if pairG g s t = true then (⟨s, t, -bestN g s, bestN g t⟩, 0) else (clZ, 1)
set_option maxRecDepth 20000 in
theorem spec_MakeClaim_ok (g : Gm) (s t : Int × List (List Int)) (hg : gameL g) (hs : rowsS s.2) (ht : rowsS t.2) : Fun Try.prog 140 [] [.t (gameT g), .t (stratT s), .t (stratT t)] fun o r => o = [] ∧ r = mcO (mcR g s t) := by
  refine Fun.le (Q := fun o r => o = [] ∧ (r = mcO (mcR g s t) ∨ (mcR g s t = (clZ, 1) ∧ r = .tup [.agg [.i 0, .v (.slice none 0 0), .i 0, .v (.slice none 0 0), .i 0, .i 0], .i 1]))) ?_ ?_
  case refine_2 =>
    rintro o r ⟨rfl, rfl | ⟨h, rfl⟩⟩
    · exact ⟨_, .refl _, rfl, rfl⟩
    · exact ⟨_, mcZ 1, rfl, by rw [h]⟩
  refine fun_spec_MakeClaim (by simp) ?_
  have h1 := vb_t (spec_ValueBounds_ok g s t hg (rowsS_L hs) (rowsS_L ht))
  simp -implicitDefEqProofs only [go_sem, evR, ints, rows, rat, rats, c_spec_MakeClaim, gameT, stratT, nodes]
  cases hb : pairG g s t
  · rw [vbR, hb] at h1
    simp only [tr4, Bool.false_eq_true, if_false] at h1
    refine CallW.pure h1 [] rfl Try.call79 ?_ (by first | trivial | simp [T.noSh, T.noShL, rat]) rfl ?_
    · simp -implicitDefEqProofs only [agR, Nat.reduceLeDiff, Nat.reduceSub, vaR, go_sem, ints, rows, rat, rats, ratsO, rtR, intsO, rowsO]
    simp -implicitDefEqProofs only [go_sem, evR, ints, rows, rat, rats]
    exact ⟨fun _ => .inr (by rw [mcR, hb]; rfl), fun h => absurd h (by decide)⟩
  · rw [vbR, hb] at h1
    simp only [tr4, if_true] at h1
    refine CallW.pure h1 [] rfl Try.call79 ?_ (by first | trivial | simp [T.noSh, T.noShL, rat]) rfl ?_
    · simp -implicitDefEqProofs only [agR, Nat.reduceLeDiff, Nat.reduceSub, vaR, go_sem, ints, rows, rat, rats, ratsO, rtR, intsO, rowsO]
    simp -implicitDefEqProofs only [go_sem, evR, ints, rows, rat, rats]
    refine CallC.res (own_t (spec_l24Own_ok s (rowsS_12 hs))) [] rfl Try.call145 (fun e R' hR => ?_) (.inl rfl) ?_
    · simp -implicitDefEqProofs only [agR, Nat.reduceLeDiff, Nat.reduceSub, vaR, go_sem, ints, rows, rat, rats, ratsO, rtR, intsO, rowsO]
    simp -implicitDefEqProofs only [clR, Nat.reduceLeDiff, go_sem, evR, rat]
    refine CallC.res (own_t (spec_l24Own_ok t (rowsS_12 ht))) [] rfl Try.call145 (fun e R' hR => ?_) (.inl rfl) ?_
    · simp -implicitDefEqProofs only [agR, Nat.reduceLeDiff, Nat.reduceSub, vaR, go_sem, ints, rows, rat, rats, ratsO, rtR, intsO, rowsO]
    simp -implicitDefEqProofs only [clR, Nat.reduceLeDiff, go_sem, evR, rat]
    exact .inl (by rw [mcR, hb]; rfl)
def jcR (g : Gm) (c d : Cl) : Cl × Int :=
  if clCode g c = 0 then
    if clCode g d = 0 then (⟨if c.lo < d.lo then d.f else c.f, if d.hi < c.hi then d.s else c.s, if c.lo < d.lo then d.lo else c.lo, if d.hi < c.hi then d.hi else c.hi⟩, 0)
    else (clZ, clCode g d)
  else (clZ, clCode g c)
theorem jcR_rowsS (g : Gm) (c d : Cl) (h1 : rowsS c.f.2) (h2 : rowsS c.s.2) (h3 : rowsS d.f.2) (h4 : rowsS d.s.2) : rowsS (jcR g c d).1.f.2 ∧ rowsS (jcR g c d).1.s.2 := by
  have hz : rowsS [] := ⟨by simp, by simp [tot]⟩
  unfold jcR
  split
  · split
    · constructor
      · show rowsS (if c.lo < d.lo then d.f else c.f).2
        split
        · exact h3
        · exact h1
      · show rowsS (if d.hi < c.hi then d.s else c.s).2
        split
        · exact h4
        · exact h2
    · exact ⟨hz, hz⟩
  · exact ⟨hz, hz⟩
theorem jcR_c {g : Gm} {c d : Cl} (h : clCode g c ≠ 0) : jcR g c d = (clZ, clCode g c) := by rw [jcR, if_neg h]
theorem jcR_d {g : Gm} {c d : Cl} (h : clCode g c = 0) (h' : clCode g d ≠ 0) : jcR g c d = (clZ, clCode g d) := by rw [jcR, if_pos h, if_neg h']
theorem jcR_ok {g : Gm} {c d : Cl} (h : clCode g c = 0) (h' : clCode g d = 0) : jcR g c d = (⟨if c.lo < d.lo then d.f else c.f, if d.hi < c.hi then d.s else c.s, if c.lo < d.lo then d.lo else c.lo, if d.hi < c.hi then d.hi else c.hi⟩, 0) := by rw [jcR, if_pos h, if_pos h']
theorem clCode_one {g : Gm} {c : Cl} (h : isGameB g = false) : clCode g c = 1 := by rw [clCode, h]; rfl
theorem clCode_five {g : Gm} {c : Cl} (h : isGameB g = true) (h' : prB g c = false) : clCode g c = 5 := by rw [clCode, h, h']; rfl
theorem jcZ {g : Gm} {c d : Cl} {k : Int} (h : jcR g c d = (clZ, k)) : Le (.tup [.agg [.i 0, .v (.slice none 0 0), .i 0, .v (.slice none 0 0), .i 0, .i 0], .i k]) (mcO (jcR g c d)) := by
  rw [h]; exact mcZ k
theorem jcLe {f : FuncId} {args : List A} {g : Gm} {c d : Cl} (h : Fun Try.prog f [] args fun o r => o = [] ∧ (r = mcO (jcR g c d) ∨ ∃ k, jcR g c d = (clZ, k) ∧ r = .tup [.agg [.i 0, .v (.slice none 0 0), .i 0, .v (.slice none 0 0), .i 0, .i 0], .i k])) :
    Fun Try.prog f [] args fun o r => o = [] ∧ r = mcO (jcR g c d) := by
  refine h.le ?_
  rintro o r ⟨rfl, rfl | ⟨k, h, rfl⟩⟩
  · exact ⟨_, .refl _, rfl, rfl⟩
  · exact ⟨_, jcZ h, rfl, rfl⟩
set_option maxRecDepth 20000 in
theorem spec_JoinClaims_ok (g : Gm) (c d : Cl) (hg : gameL g) (h1 : rowsS c.f.2) (h2 : rowsS c.s.2) (h3 : rowsS d.f.2) (h4 : rowsS d.s.2) : Fun Try.prog 71 [] [.t (gameT g), .t (claimT c), .t (claimT d)] fun o r => o = [] ∧ r = mcO (jcR g c d) := by
  refine jcLe ?_
  refine fun_spec_JoinClaims (by simp) ?_
  have q1 := spec_l28Code_ok g c hg (rowsS_L h1) (rowsS_L h2)
  have q2 := spec_l28Code_ok g d hg (rowsS_L h3) (rowsS_L h4)
  simp only [gameT, claimT, nodes, rows] at q1 q2
  simp -implicitDefEqProofs only [go_sem, evR, ints, rows, rat, rats, c_spec_JoinClaims, gameT, claimT, nodes]
  refine CallW.pure q1 [] rfl Try.call144 ?_ (by first | trivial | simp [T.noSh, T.noShL, rat]) rfl ?_
  · simp -implicitDefEqProofs only [agR, Nat.reduceLeDiff, Nat.reduceSub, vaR, go_sem, ints, rows, rat, rats, ratsO, rtR, intsO, rowsO]
  simp -implicitDefEqProofs only [go_sem, evR, ints, rows, rat, rats]
  refine ⟨fun h => ?_, fun h => ?_⟩
  · have hc : clCode g c = 0 := by simpa using h
    refine CallW.pure q2 [] rfl Try.call144 ?_ (by first | trivial | simp [T.noSh, T.noShL, rat]) rfl ?_
    · simp -implicitDefEqProofs only [agR, Nat.reduceLeDiff, Nat.reduceSub, vaR, go_sem, ints, rows, rat, rats, ratsO, rtR, intsO, rowsO]
    simp -implicitDefEqProofs only [go_sem, evR, ints, rows, rat, rats]
    refine ⟨fun h => .inr ⟨clCode g d, jcR_d hc (by simpa using h), rfl⟩, fun h => ?_⟩
    have hd : clCode g d = 0 := by simpa using h
    have k := jcR_ok hc hd
    refine CallC.res (own_t (spec_l24Own_ok c.f (rowsS_12 h1))) [] rfl Try.call145 (fun e R' hR => ?_) (.inl rfl) ?_
    · simp -implicitDefEqProofs only [agR, Nat.reduceLeDiff, Nat.reduceSub, vaR, go_sem, ints, rows, rat, rats, ratsO, rtR, intsO, rowsO]
    simp -implicitDefEqProofs only [clR, Nat.reduceLeDiff, go_sem, evR, rat]
    refine CallC.res (own_t (spec_l24Own_ok c.s (rowsS_12 h2))) [] rfl Try.call145 (fun e R' hR => ?_) (.inl rfl) ?_
    · simp -implicitDefEqProofs only [agR, Nat.reduceLeDiff, Nat.reduceSub, vaR, go_sem, ints, rows, rat, rats, ratsO, rtR, intsO, rowsO]
    simp -implicitDefEqProofs only [clR, Nat.reduceLeDiff, go_sem, evR, rat]
    refine ⟨fun a => ?_, fun a => ⟨fun b => ?_, fun b => ?_⟩⟩
    · refine CallW.res (own_t (spec_l24Own_ok d.f (rowsS_12 h3))) [] rfl Try.call145 ?_ (.inl rfl) ?_
      · simp -implicitDefEqProofs only [agR, Nat.reduceLeDiff, Nat.reduceSub, vaR, go_sem, ints, rows, rat, rats, ratsO, rtR, intsO, rowsO]
      simp -implicitDefEqProofs only [clR, Nat.reduceLeDiff, go_sem, evR, rat]
      refine ⟨fun b => ?_, fun b => ?_⟩
      · refine CallW.res (own_t (spec_l24Own_ok d.s (rowsS_12 h4))) [] rfl Try.call145 ?_ (.inl rfl) ?_
        · simp -implicitDefEqProofs only [agR, Nat.reduceLeDiff, Nat.reduceSub, vaR, go_sem, ints, rows, rat, rats, ratsO, rtR, intsO, rowsO]
        simp -implicitDefEqProofs only [clR, Nat.reduceLeDiff, go_sem, evR, rat]
        rw [if_pos a, if_pos b, if_pos a, if_pos b] at k
        simp -implicitDefEqProofs only [go_sem, evR, ints, rows, rat, rats, opR, Nat.reduceBEq]
        exact .inl (by rw [k]; rfl)
      · rw [if_pos a, if_neg b, if_pos a, if_neg b] at k
        simp -implicitDefEqProofs only [go_sem, evR, ints, rows, rat, rats, opR, Nat.reduceBEq]
        exact .inl (by rw [k]; rfl)
    · refine CallW.res (own_t (spec_l24Own_ok d.s (rowsS_12 h4))) [] rfl Try.call145 ?_ (.inl rfl) ?_
      · simp -implicitDefEqProofs only [agR, Nat.reduceLeDiff, Nat.reduceSub, vaR, go_sem, ints, rows, rat, rats, ratsO, rtR, intsO, rowsO]
      simp -implicitDefEqProofs only [clR, Nat.reduceLeDiff, go_sem, evR, rat]
      rw [if_neg a, if_pos b, if_neg a, if_pos b] at k
      simp -implicitDefEqProofs only [go_sem, evR, ints, rows, rat, rats, opR, Nat.reduceBEq]
      exact .inl (by rw [k]; rfl)
    · rw [if_neg a, if_neg b, if_neg a, if_neg b] at k
      simp -implicitDefEqProofs only [go_sem, evR, ints, rows, rat, rats, opR, Nat.reduceBEq]
      exact .inl (by rw [k]; rfl)
  · have hc : ¬ clCode g c = 0 := by simpa using h
    refine ⟨fun _ => .inr ⟨clCode g c, jcR_c hc, rfl⟩, fun h' => absurd (by simpa using h') hc⟩
set_option maxRecDepth 20000 in
theorem impl_JoinClaims_ok (g : Gm) (c d : Cl) (hg : gameL g) (h1 : rowsS c.f.2) (h2 : rowsS c.s.2) (h3 : rowsS d.f.2) (h4 : rowsS d.s.2) : Fun Try.prog 70 [] [.t (gameT g), .t (claimT c), .t (claimT d)] fun o r => o = [] ∧ r = mcO (jcR g c d) := by
  refine jcLe ?_
  refine fun_impl_JoinClaims_h (by simp) ?_
  have h0 := isGame_t (impl_IsGame_ok g hg)
  have q1 := impl_isProved_ok g c hg (rowsS_L h1) (rowsS_L h2)
  have q2 := impl_isProved_ok g d hg (rowsS_L h3) (rowsS_L h4)
  simp only [gameT, claimT, nodes, rows] at q1 q2
  simp -implicitDefEqProofs only [go_sem, evR, ints, rows, rat, rats, c_impl_JoinClaims_h, gameT, claimT, nodes]
  cases hb1 : isGameB g <;> rw [hb1] at h0
  · refine CallW.pure h0 [] rfl Try.call115 ?_ (by first | trivial | simp [T.noSh, T.noShL, rat]) rfl ?_
    · simp -implicitDefEqProofs only [agR, Nat.reduceLeDiff, Nat.reduceSub, vaR, go_sem, ints, rows, rat, rats, ratsO, rtR, intsO, rowsO]
    simp -implicitDefEqProofs only [go_sem, evR, ints, rows, rat, rats]
    have k1 := clCode_one (c := c) hb1
    exact .inr ⟨1, by rw [jcR_c (by rw [k1]; decide), k1], rfl⟩
  · refine CallW.pure h0 [] rfl Try.call115 ?_ (by first | trivial | simp [T.noSh, T.noShL, rat]) rfl ?_
    · simp -implicitDefEqProofs only [agR, Nat.reduceLeDiff, Nat.reduceSub, vaR, go_sem, ints, rows, rat, rats, ratsO, rtR, intsO, rowsO]
    simp -implicitDefEqProofs only [go_sem, evR, ints, rows, rat, rats]
    cases hb2 : prB g c <;> rw [hb2] at q1
    · have k1 := clCode_five hb1 hb2
      refine CallW.pure q1 [] rfl Try.call142 ?_ (by first | trivial | simp [T.noSh, T.noShL, rat]) rfl ?_
      · simp -implicitDefEqProofs only [agR, Nat.reduceLeDiff, Nat.reduceSub, vaR, go_sem, ints, rows, rat, rats, ratsO, rtR, intsO, rowsO]
      simp -implicitDefEqProofs only [go_sem, evR, ints, rows, rat, rats]
      exact .inr ⟨5, by rw [jcR_c (by rw [k1]; decide), k1], rfl⟩
    · have k1 : clCode g c = 0 := clCode_zero.2 ⟨hb1, hb2⟩
      refine CallW.pure q1 [] rfl Try.call142 ?_ (by first | trivial | simp [T.noSh, T.noShL, rat]) rfl ?_
      · simp -implicitDefEqProofs only [agR, Nat.reduceLeDiff, Nat.reduceSub, vaR, go_sem, ints, rows, rat, rats, ratsO, rtR, intsO, rowsO]
      simp -implicitDefEqProofs only [go_sem, evR, ints, rows, rat, rats]
      cases hb3 : prB g d <;> rw [hb3] at q2
      · have k2 := clCode_five hb1 hb3
        refine CallW.pure q2 [] rfl Try.call142 ?_ (by first | trivial | simp [T.noSh, T.noShL, rat]) rfl ?_
        · simp -implicitDefEqProofs only [agR, Nat.reduceLeDiff, Nat.reduceSub, vaR, go_sem, ints, rows, rat, rats, ratsO, rtR, intsO, rowsO]
        simp -implicitDefEqProofs only [go_sem, evR, ints, rows, rat, rats]
        exact .inr ⟨5, by rw [jcR_d k1 (by rw [k2]; decide), k2], rfl⟩
      · have k2 : clCode g d = 0 := clCode_zero.2 ⟨hb1, hb3⟩
        refine CallW.pure q2 [] rfl Try.call142 ?_ (by first | trivial | simp [T.noSh, T.noShL, rat]) rfl ?_
        · simp -implicitDefEqProofs only [agR, Nat.reduceLeDiff, Nat.reduceSub, vaR, go_sem, ints, rows, rat, rats, ratsO, rtR, intsO, rowsO]
        simp -implicitDefEqProofs only [go_sem, evR, ints, rows, rat, rats]
        have k := jcR_ok k1 k2
        refine ⟨fun a => ⟨⟨fun b => ⟨?_, by repeat first | exact frameOK.refl _ _ _ | refine frameOK.upd _ ?_ (.inr rfl) | refine frameOK.upd _ ?_ (.inl (by decide))⟩, fun b => ?_⟩, by repeat first | exact frameOK.refl _ _ _ | refine frameOK.upd _ ?_ (.inr rfl) | refine frameOK.upd _ ?_ (.inl (by decide))⟩, fun a => ⟨fun b => ⟨?_, by repeat first | exact frameOK.refl _ _ _ | refine frameOK.upd _ ?_ (.inr rfl) | refine frameOK.upd _ ?_ (.inl (by decide))⟩, fun b => ?_⟩⟩
        · refine CallC.res (own_t (impl_cloneStrategy_ok d.f (rowsS_12 h3))) [] rfl Try.call143 (fun e R' hR => ?_) (.inl rfl) ?_
          · simp -implicitDefEqProofs only [agR, Nat.reduceLeDiff, Nat.reduceSub, vaR, go_sem, ints, rows, rat, rats, ratsO, rtR, intsO, rowsO]
          simp -implicitDefEqProofs only [clR, Nat.reduceLeDiff, go_sem, evR, rat]
          refine CallC.res (own_t (impl_cloneStrategy_ok d.s (rowsS_12 h4))) [] rfl Try.call143 (fun e R' hR => ?_) (.inl rfl) ?_
          · simp -implicitDefEqProofs only [agR, Nat.reduceLeDiff, Nat.reduceSub, vaR, go_sem, ints, rows, rat, rats, ratsO, rtR, intsO, rowsO]
          simp -implicitDefEqProofs only [clR, Nat.reduceLeDiff, go_sem, evR, rat]
          rw [if_pos a, if_pos b, if_pos a, if_pos b] at k
          simp -implicitDefEqProofs only [go_sem, evR, ints, rows, rat, rats, opR, Nat.reduceBEq]
          exact .inl (by rw [k]; rfl)
        · refine CallC.res (own_t (impl_cloneStrategy_ok d.f (rowsS_12 h3))) [] rfl Try.call143 (fun e R' hR => ?_) (.inl rfl) ?_
          · simp -implicitDefEqProofs only [agR, Nat.reduceLeDiff, Nat.reduceSub, vaR, go_sem, ints, rows, rat, rats, ratsO, rtR, intsO, rowsO]
          simp -implicitDefEqProofs only [clR, Nat.reduceLeDiff, go_sem, evR, rat]
          refine CallC.res (own_t (impl_cloneStrategy_ok c.s (rowsS_12 h2))) [] rfl Try.call143 (fun e R' hR => ?_) (.inl rfl) ?_
          · simp -implicitDefEqProofs only [agR, Nat.reduceLeDiff, Nat.reduceSub, vaR, go_sem, ints, rows, rat, rats, ratsO, rtR, intsO, rowsO]
          simp -implicitDefEqProofs only [clR, Nat.reduceLeDiff, go_sem, evR, rat]
          rw [if_pos a, if_neg b, if_pos a, if_neg b] at k
          simp -implicitDefEqProofs only [go_sem, evR, ints, rows, rat, rats, opR, Nat.reduceBEq]
          exact .inl (by rw [k]; rfl)
        · refine CallC.res (own_t (impl_cloneStrategy_ok c.f (rowsS_12 h1))) [] rfl Try.call143 (fun e R' hR => ?_) (.inl rfl) ?_
          · simp -implicitDefEqProofs only [agR, Nat.reduceLeDiff, Nat.reduceSub, vaR, go_sem, ints, rows, rat, rats, ratsO, rtR, intsO, rowsO]
          simp -implicitDefEqProofs only [clR, Nat.reduceLeDiff, go_sem, evR, rat]
          refine CallC.res (own_t (impl_cloneStrategy_ok d.s (rowsS_12 h4))) [] rfl Try.call143 (fun e R' hR => ?_) (.inl rfl) ?_
          · simp -implicitDefEqProofs only [agR, Nat.reduceLeDiff, Nat.reduceSub, vaR, go_sem, ints, rows, rat, rats, ratsO, rtR, intsO, rowsO]
          simp -implicitDefEqProofs only [clR, Nat.reduceLeDiff, go_sem, evR, rat]
          rw [if_neg a, if_pos b, if_neg a, if_pos b] at k
          simp -implicitDefEqProofs only [go_sem, evR, ints, rows, rat, rats, opR, Nat.reduceBEq]
          exact .inl (by rw [k]; rfl)
        · refine CallC.res (own_t (impl_cloneStrategy_ok c.f (rowsS_12 h1))) [] rfl Try.call143 (fun e R' hR => ?_) (.inl rfl) ?_
          · simp -implicitDefEqProofs only [agR, Nat.reduceLeDiff, Nat.reduceSub, vaR, go_sem, ints, rows, rat, rats, ratsO, rtR, intsO, rowsO]
          simp -implicitDefEqProofs only [clR, Nat.reduceLeDiff, go_sem, evR, rat]
          refine CallC.res (own_t (impl_cloneStrategy_ok c.s (rowsS_12 h2))) [] rfl Try.call143 (fun e R' hR => ?_) (.inl rfl) ?_
          · simp -implicitDefEqProofs only [agR, Nat.reduceLeDiff, Nat.reduceSub, vaR, go_sem, ints, rows, rat, rats, ratsO, rtR, intsO, rowsO]
          simp -implicitDefEqProofs only [clR, Nat.reduceLeDiff, go_sem, evR, rat]
          rw [if_neg a, if_neg b, if_neg a, if_neg b] at k
          simp -implicitDefEqProofs only [go_sem, evR, ints, rows, rat, rats, opR, Nat.reduceBEq]
          exact .inl (by rw [k]; rfl)
end
end Go.Ab

/- Contracts: values of nodes and numbers of games. -/
set_option linter.unusedSimpArgs false
set_option linter.unusedVariables false
namespace Go.Ab
open Go.Proofs

section
attribute [-go_sem] load1C load1V fldC lenC idxC loadNV nilCheckW
theorem pair_parts {g : Gm} {s t : Int × List (List Int)} (h : pairG g s t = true) : isGameB g = true ∧ partsOK g s.2 0 ∧ partsOK g t.2 1 := by
  obtain ⟨h1, h2, h3, h4, h5⟩ := pairG_iff.1 h
  rw [h2] at h4; rw [h3] at h5
  exact ⟨h1, partsOK_of h4, partsOK_of h5⟩
end
end Go.Ab

/- Games as data: what the laws of best responses and bounds say. -/
set_option linter.unusedSimpArgs false
set_option linter.unusedVariables false
namespace Go.Ab

theorem gains_law {g : Gm} {s t : Int × List (List Int)} (h : pairG g s t = true) : 0 ≤ bestN g t - gnum g s.2 t.2 ∧ 0 ≤ bestN g s + gnum g s.2 t.2 ∧ bestN g t - gnum g s.2 t.2 + (bestN g s + gnum g s.2 t.2) = expN g s t ∧ 0 ≤ expN g s t ∧ -bestN g s ≤ gnum g s.2 t.2 ∧ gnum g s.2 t.2 ≤ bestN g t := by
  obtain ⟨h1, h2, h3⟩ := pair_parts h
  obtain ⟨_, _, h4, h5⟩ := pairG_parts h
  have b1 := gnum_le (g := g) (s := s.2) (t := t.2) h1 h2 h3
  have b2 := gnum_ge (g := g) (s := s.2) (t := t.2) h1 h2 h3
  have e1 : bestN g t = runV g t.2 0 g.w.length := by rw [bestN, h5]; rfl
  have e2 : bestN g s = runV g s.2 1 g.w.length := by rw [bestN, h4]; rfl
  rw [expN, e1, e2]
  omega
end Go.Ab
