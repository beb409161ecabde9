/- Tables of pure strategies: the law FnTables returns true for every list of bytes. No conditions. -/
import Derived.Test.YtkmmkgpnlmdcfaaRows
import Derived.Test.YtkmmkgpnlmdcfaaQ5
/- Contracts: the shape of drawn games. -/
set_option linter.unusedSimpArgs false
set_option linter.unusedVariables false
namespace Go.Ab
open Go.Proofs
section
attribute [-go_sem] load1C load1V fldC lenC idxC loadNV nilCheckW
set_option maxRecDepth 20000 in
theorem spec_l21Tree_ok (l : List Nd) (hl : smallN 1000 l) : Fun Try.prog 219 [] [.t (treeT l)] fun o r => o = [] ∧ r = .agg [nodesO l] := by
  refine fun_spec_l21Tree (by simp) ?_
  simp -implicitDefEqProofs only [go_sem, evR, ints, rows, rat, rats, c_spec_l21Tree, treeT, nodes]
  refine SemC.loopR (σ := Nat) (fun i => St.of [(1, .own 1), (2, .own 2), (3, .own 96), (4, .t (.i i))] [(1, .box [nodes l]), (2, .box [.v (.slice none 0 0)]), (96, nodesO (l.take i))]) (fun i => i ≤ l.length) (fun i => l.length - i) 0 (Weak.of _ _ [some 1, some 2, some 6] (by simp) (by simp) ?_ ?_) (by simp) fun i hi R hn hr he => ?_
  · simp -implicitDefEqProofs only [ints, rows, Nat.reduceBEq, wkR, Nat.reduceEqDiff, ↓reduceIte, wrR, nodes]
  · exact ⟨⟨_, rfl, .refl _⟩, rfl, ⟨_, rfl, .refl _⟩, rfl, ⟨_, rfl, .refl _⟩, rfl, trivial⟩
  have hl1 := hl.1
  rcases Nat.lt_or_ge i l.length with h9 | h9
  · obtain ⟨x, hx⟩ : ∃ x, l[i]? = some x := ⟨_, List.getElem?_eq_getElem h9⟩
    have hxl := hl.2 x (List.mem_of_getElem? hx)
    have hnt : (chunk nodeCO (l.take i)).length = i * 5 := by rw [chunk_length nodeCO_len, List.length_take, Nat.min_eq_left (by omega)]
    simp -implicitDefEqProofs only [go_sem, evR, ints, rows, rat, rats, nodes, nodesO, decide_eq_true (show (i : Int) < (l.length : Int) by omega), nd_at hx]
    refine ⟨by omega, by rw [nd_len]; omega, by rw [nd_len]; omega, ?_⟩
    have hp := spec_l01Own_ok x.ch (by omega)
    simp only [ints, intsO] at hp
    refine CallW.res hp [] rfl Try.call167 ?_ (.inl rfl) ?_
    · simp -implicitDefEqProofs only [agR, Nat.reduceLeDiff, Nat.reduceSub, vaR, go_sem, ints, rows, rat, rats, ratsO, rtR, intsO, rowsO]
    simp -implicitDefEqProofs only [clR, Nat.reduceLeDiff, go_sem, evR, rat, opR, Nat.reduceBEq, hnt]
    refine ⟨by omega, hn _ (i + 1) (Weak.of _ _ [some 1, some 2, some 26] (by simp) (by simp) ?_ ?_) (by omega) (by omega)⟩
    · simp -implicitDefEqProofs only [ints, rows, Nat.reduceBEq, wkR, Nat.reduceEqDiff, ↓reduceIte, wrR, nodes, next64 h9 (by omega)]
    · refine ⟨⟨_, rfl, .refl _⟩, rfl, ⟨_, rfl, .refl _⟩, rfl, ⟨_, rfl, ?_⟩, rfl, trivial⟩
      rw [nodesO, take_snoc hx, chunk_append]; exact .refl _
  · simp -implicitDefEqProofs only [go_sem, evR, ints, rows, rat, rats, nodes, decide_eq_false (show ¬ (i : Int) < (l.length : Int) by omega)]
    refine he _ _ ?_
    simp -implicitDefEqProofs only [go_sem, evR, ints, rows, rat, rats, nodesO]
    rw [List.take_of_length_le (by omega)]
theorem spec_l04Order_ok (x y : Int) : Fun Try.prog 218 [] [.t (.i x), .t (.i y)] fun o r => ∃ z : Int, o = [] ∧ r = .i z ∧ (-1 ≤ z ∧ z ≤ 1) := by
  refine fun_spec_l04Order (by simp) ?_
  simp -implicitDefEqProofs only [go_sem, evR, ints, rows, rat, rats, c_spec_l04Order]
  refine ⟨fun h => ?_, fun h => ⟨fun h1 => ?_, fun h1 => ?_⟩⟩
  · exact ⟨_, rfl, by omega, by omega⟩
  · exact ⟨_, rfl, by omega, by omega⟩
  · exact ⟨_, rfl, by omega, by omega⟩
def smallG (g : Gm) : Prop := smallN 101 g.nd ∧ g.w.length ≤ 4 ∧ (∀ r ∈ g.w, r.length ≤ 4) ∧ g.v.length ≤ 4 ∧ ∀ r ∈ g.v, r.length ≤ 4
theorem rows_snoc4 {m : List (List Int)} {r : List Int} {k : Nat} (h : ∀ x ∈ m, x.length = k) (hr : r.length = k) : ∀ x ∈ m ++ [r], x.length = k := by
  intro x hx
  rcases List.mem_append.1 hx with hx | hx
  · exact h x hx
  · simp at hx; rw [hx]; exact hr
set_option maxRecDepth 20000 in
theorem spec_l21HighCard_w (l : List Nd) (hl : smallN 101 l) (k : Nat) (hk : k ≤ 4) (ag : Bool) : Fun Try.prog 185 [] [.t (treeT l), .t (.i k), .t (.b ag)] fun o r => ∃ g : Gm, o = [] ∧ r = gameO g ∧ (g.nd = l ∧ g.w.length = k ∧ (∀ r ∈ g.w, r.length = k) ∧ g.v.length = k ∧ ∀ r ∈ g.v, r.length = k) := by
  refine fun_spec_l21HighCard (by simp) ?_
  simp -implicitDefEqProofs only [go_sem, evR, ints, rows, rat, rats, c_spec_l21HighCard, treeT, nodes]
  refine SemC.loopR (σ := List (List Int) × List (List Int)) (fun s => St.of [(1, .t (.i k)), (2, .t (.b ag)), (3, .own 3), (6, .own 6), (7, .own 96), (8, .own 97), (9, .t (.i s.1.length))] [(3, .box [nodes l]), (6, .box [.v (.slice none 0 0), .v (.slice none 0 0), .v (.slice none 0 0)]), (96, rowsO s.1), (97, rowsO s.2)]) (fun s => s.1.length ≤ k ∧ s.2.length = s.1.length ∧ (∀ r ∈ s.1, r.length = k) ∧ ∀ r ∈ s.2, r.length = k) (fun s => k - s.1.length) ([], []) (Weak.of _ _ [some 3, some 6, some 13, some 14] (by simp) (by simp) ?_ ?_) (by simp) fun s hI R hn hr he => ?_
  · simp -implicitDefEqProofs only [ints, rows, Nat.reduceBEq, wkR, Nat.reduceEqDiff, ↓reduceIte, wrR, nodes, List.length_nil]
  · exact ⟨⟨_, rfl, .refl _⟩, rfl, ⟨_, rfl, .refl _⟩, rfl, ⟨_, rfl, .refl _⟩, rfl, ⟨_, rfl, .refl _⟩, rfl, trivial⟩
  obtain ⟨w, v⟩ := s
  obtain ⟨i1, i2, i3, i4⟩ := hI
  (try simp only [] at i1 i2 i3 i4)
  rcases Nat.lt_or_ge w.length k with h9 | h9
  · simp -implicitDefEqProofs only [go_sem, evR, ints, rows, rat, rats, nodes, rowsO, decide_eq_true (show (w.length : Int) < (k : Int) by omega)]
    refine SemC.loopR (σ := List Int × List Int) (fun s => St.of [(1, .t (.i k)), (2, .t (.b ag)), (3, .own 3), (6, .own 6), (7, .own 96), (8, .own 97), (9, .t (.i w.length)), (10, .own 98), (11, .own 99), (12, .t (.i s.1.length))] [(3, .box [nodes l]), (6, .box [.v (.slice none 0 0), .v (.slice none 0 0), .v (.slice none 0 0)]), (96, rowsO w), (97, rowsO v), (98, intsO s.1), (99, intsO s.2)]) (fun s => s.1.length ≤ k ∧ s.2.length = s.1.length) (fun s => k - s.1.length) ([], []) (Weak.of _ _ [some 3, some 6, some 96, some 97, some 20, some 21] (by simp) (by simp) ?_ ?_) (by simp) fun s hI R2 hn2 hr2 he2 => ?_
    · simp -implicitDefEqProofs only [ints, rows, Nat.reduceBEq, wkR, Nat.reduceEqDiff, ↓reduceIte, wrR, nodes, List.length_nil]
    · exact ⟨⟨_, rfl, .refl _⟩, rfl, ⟨_, rfl, .refl _⟩, rfl, ⟨_, rfl, .refl _⟩, rfl, ⟨_, rfl, .refl _⟩, rfl, ⟨_, rfl, .refl _⟩, rfl, ⟨_, rfl, .refl _⟩, rfl, trivial⟩
    obtain ⟨p, q⟩ := s
    obtain ⟨j1, j2⟩ := hI
    (try simp only [] at j1 j2)
    rcases Nat.lt_or_ge p.length k with h8 | h8
    · simp -implicitDefEqProofs only [go_sem, evR, ints, rows, rat, rats, nodes, rowsO, intsO, decide_eq_true (show (p.length : Int) < (k : Int) by omega)]
      refine ⟨fun _ => ⟨fun _ => ⟨by omega, ?_⟩, fun _ => ⟨by omega, ?_⟩⟩, fun _ => ⟨by omega, ?_⟩⟩
      · refine CallW.exi (spec_l04Order_ok (w.length : Int) (p.length : Int)) [] [] rfl Try.call218 (by simp) ?_ (by simp) ?_ (.inl rfl) (fun z hz => ?_)
        · simp -implicitDefEqProofs only [srR, Nat.reduceEqDiff, ↓reduceIte, ints, rows, intsO, rowsO]
        · simp -implicitDefEqProofs only [agR, Nat.reduceLeDiff, Nat.reduceSub, vaR, go_sem, ints, rows, rat, rats, ratsO, rtR, intsO, rowsO]
        simp -implicitDefEqProofs only [clR, Nat.reduceLeDiff, go_sem, evR, rat, intsO]
        refine ⟨by omega, hn2 _ (p ++ [0], q ++ [z]) (Weak.of _ _ [some 3, some 6, some 96, some 97, some 36, some 45] (by simp) (by simp) ?_ ?_) ⟨by simp; omega, by simp; omega⟩ (by simp; omega)⟩
        · simp -implicitDefEqProofs only [ints, rows, Nat.reduceBEq, wkR, Nat.reduceEqDiff, ↓reduceIte, wrR, nodes, next64 h8 (by omega), List.length_append, List.length_cons, List.length_nil]
        · refine ⟨⟨_, rfl, .refl _⟩, rfl, ⟨_, rfl, .refl _⟩, rfl, ⟨_, rfl, .refl _⟩, rfl, ⟨_, rfl, .refl _⟩, rfl, ⟨_, rfl, ?_⟩, rfl, ⟨_, rfl, ?_⟩, rfl, trivial⟩
          · simp only [intsO, List.map_append, List.map_cons, List.map_nil]; exact .refl _
          · simp only [intsO, List.map_append, List.map_cons, List.map_nil]; exact .refl _
      · refine CallW.exi (spec_l04Order_ok (w.length : Int) (p.length : Int)) [] [] rfl Try.call218 (by simp) ?_ (by simp) ?_ (.inl rfl) (fun z hz => ?_)
        · simp -implicitDefEqProofs only [srR, Nat.reduceEqDiff, ↓reduceIte, ints, rows, intsO, rowsO]
        · simp -implicitDefEqProofs only [agR, Nat.reduceLeDiff, Nat.reduceSub, vaR, go_sem, ints, rows, rat, rats, ratsO, rtR, intsO, rowsO]
        simp -implicitDefEqProofs only [clR, Nat.reduceLeDiff, go_sem, evR, rat, intsO]
        refine ⟨by omega, hn2 _ (p ++ [1], q ++ [z]) (Weak.of _ _ [some 3, some 6, some 96, some 97, some 39, some 45] (by simp) (by simp) ?_ ?_) ⟨by simp; omega, by simp; omega⟩ (by simp; omega)⟩
        · simp -implicitDefEqProofs only [ints, rows, Nat.reduceBEq, wkR, Nat.reduceEqDiff, ↓reduceIte, wrR, nodes, next64 h8 (by omega), List.length_append, List.length_cons, List.length_nil]
        · refine ⟨⟨_, rfl, .refl _⟩, rfl, ⟨_, rfl, .refl _⟩, rfl, ⟨_, rfl, .refl _⟩, rfl, ⟨_, rfl, .refl _⟩, rfl, ⟨_, rfl, ?_⟩, rfl, ⟨_, rfl, ?_⟩, rfl, trivial⟩
          · simp only [intsO, List.map_append, List.map_cons, List.map_nil]; exact .refl _
          · simp only [intsO, List.map_append, List.map_cons, List.map_nil]; exact .refl _
      · refine CallW.exi (spec_l04Order_ok (w.length : Int) (p.length : Int)) [] [] rfl Try.call218 (by simp) ?_ (by simp) ?_ (.inl rfl) (fun z hz => ?_)
        · simp -implicitDefEqProofs only [srR, Nat.reduceEqDiff, ↓reduceIte, ints, rows, intsO, rowsO]
        · simp -implicitDefEqProofs only [agR, Nat.reduceLeDiff, Nat.reduceSub, vaR, go_sem, ints, rows, rat, rats, ratsO, rtR, intsO, rowsO]
        simp -implicitDefEqProofs only [clR, Nat.reduceLeDiff, go_sem, evR, rat, intsO]
        refine ⟨by omega, hn2 _ (p ++ [1], q ++ [z]) (Weak.of _ _ [some 3, some 6, some 96, some 97, some 39, some 45] (by simp) (by simp) ?_ ?_) ⟨by simp; omega, by simp; omega⟩ (by simp; omega)⟩
        · simp -implicitDefEqProofs only [ints, rows, Nat.reduceBEq, wkR, Nat.reduceEqDiff, ↓reduceIte, wrR, nodes, next64 h8 (by omega), List.length_append, List.length_cons, List.length_nil]
        · refine ⟨⟨_, rfl, .refl _⟩, rfl, ⟨_, rfl, .refl _⟩, rfl, ⟨_, rfl, .refl _⟩, rfl, ⟨_, rfl, .refl _⟩, rfl, ⟨_, rfl, ?_⟩, rfl, ⟨_, rfl, ?_⟩, rfl, trivial⟩
          · simp only [intsO, List.map_append, List.map_cons, List.map_nil]; exact .refl _
          · simp only [intsO, List.map_append, List.map_cons, List.map_nil]; exact .refl _
    · simp -implicitDefEqProofs only [go_sem, evR, ints, rows, rat, rats, nodes, rowsO, intsO, decide_eq_false (show ¬ (p.length : Int) < (k : Int) by omega)]
      refine he2 _ _ ?_
      simp -implicitDefEqProofs only [go_sem, evR, ints, rows, rat, rats, nodes, rowsO, intsO]
      refine ⟨by omega, by omega, hn _ (w ++ [p], v ++ [q]) (Weak.of _ _ [some 3, some 6, some 49, some 53] (by simp) (by simp) ?_ ?_) ⟨by simp; omega, by simp; omega, rows_snoc4 i3 (by omega), rows_snoc4 i4 (by omega)⟩ (by simp; omega)⟩
      · simp -implicitDefEqProofs only [ints, rows, Nat.reduceBEq, wkR, Nat.reduceEqDiff, ↓reduceIte, wrR, nodes, next64 h9 (by omega), List.length_append, List.length_cons, List.length_nil]
      · refine ⟨⟨_, rfl, .refl _⟩, rfl, ⟨_, rfl, .refl _⟩, rfl, ⟨_, rfl, ?_⟩, rfl, ⟨_, rfl, ?_⟩, rfl, trivial⟩
        · simp only [rowsO, intsO, List.map_append, List.map_cons, List.map_nil]; exact .refl _
        · simp only [rowsO, intsO, List.map_append, List.map_cons, List.map_nil]; exact .refl _
  · simp -implicitDefEqProofs only [go_sem, evR, ints, rows, rat, rats, nodes, decide_eq_false (show ¬ (w.length : Int) < (k : Int) by omega)]
    refine he _ _ ?_
    have hp := spec_l21Tree_ok l ⟨by have := hl.1; omega, hl.2⟩
    simp only [treeT, nodes] at hp
    simp -implicitDefEqProofs only [go_sem, evR, ints, rows, rat, rats, nodes, rowsO]
    simp only [nodesO] at hp
    refine CallW.res hp [] rfl Try.call219 ?_ (.inl rfl) ?_
    · simp -implicitDefEqProofs only [agR, Nat.reduceLeDiff, Nat.reduceSub, vaR, go_sem, ints, rows, rat, rats, ratsO, rtR, intsO, rowsO]
    simp -implicitDefEqProofs only [clR, Nat.reduceLeDiff, go_sem, evR, rat, opR, Nat.reduceBEq]
    exact ⟨⟨l, w, v⟩, rfl, rfl, by show w.length = k; omega, i3, by show v.length = k; omega, i4⟩
theorem noShL_of : ∀ {l : List T}, (∀ t ∈ l, t.noSh) → T.noShL l
  | [], _ => trivial
  | t :: l, h => ⟨h t (List.mem_cons_self ..), noShL_of fun x hx => h x (List.mem_cons_of_mem _ hx)⟩
theorem nodesO_noSh (l : List Nd) : (T.arr 5 (chunk nodeCO l)).noSh := by
  refine noShL_of fun t ht => ?_
  simp only [chunk, List.mem_flatMap] at ht
  obtain ⟨x, _, hx⟩ := ht
  simp only [nodeCO, List.mem_cons, List.not_mem_nil, or_false] at hx
  rcases hx with rfl | rfl | rfl | rfl | rfl
  · trivial
  · trivial
  · trivial
  · trivial
  · exact intsO_noSh _
theorem gameO_noSh (g : Gm) : (T.agg [.arr 5 (chunk nodeCO g.nd), .arr 1 (g.w.map intsO), .arr 1 (g.v.map intsO)]).noSh := ⟨nodesO_noSh _, rowsO_noSh _, rowsO_noSh _, trivial⟩
def matOK (k : Nat) (m : List (List Int)) : Prop := m.length = k ∧ ∀ r ∈ m, r.length = k
theorem matOK_set {k : Nat} {m : List (List Int)} (h : matOK k m) (a : Nat) {r : List Int} (hr : r.length = k) : matOK k (m.set a r) := by
  refine ⟨by rw [List.length_set]; exact h.1, fun x hx => ?_⟩
  rcases List.mem_or_eq_of_mem_set hx with hx | rfl
  · exact h.2 x hx
  · exact hr
theorem matOK_get {k : Nat} {m : List (List Int)} (h : matOK k m) {a : Nat} (ha : a < k) : ∃ r, m[a]? = some r ∧ r.length = k := by
  have h1 : a < m.length := by rw [h.1]; exact ha
  exact ⟨m[a], List.getElem?_eq_getElem h1, h.2 _ (List.getElem_mem h1)⟩
def drG (g : Gm) : Prop := smallN 101 g.nd ∧ ∃ k, 1 ≤ k ∧ k ≤ 4 ∧ matOK k g.w ∧ matOK k g.v
theorem drG_small {g : Gm} (h : drG g) : smallG g := by
  obtain ⟨h1, k, h2, h3, h4, h5⟩ := h
  exact ⟨h1, by have := h4.1; omega, fun r hr => by have := h4.2 r hr; omega, by have := h5.1; omega, fun r hr => by have := h5.2 r hr; omega⟩
set_option maxRecDepth 20000 in
theorem spec_KuhnGame_w : Fun Try.prog 127 [] [] fun o r => ∃ g : Gm, o = [] ∧ r = gameO g ∧ drG g := by
  refine fun_spec_KuhnGame (by simp) ?_
  simp -implicitDefEqProofs only [go_sem, evR, ints, rows, rat, rats, c_spec_KuhnGame]
  obtain ⟨l', hl1, hl2, hp⟩ := spec_BetTree_w 1 1 0 (by omega) (by omega) (by omega) (by omega) (by omega)
  have hl' : smallN 100 l' ∧ 0 < l'.length := ⟨hl1, hl2⟩
  simp only [show ((0 : Nat) : Int) = 0 from rfl, nodesO] at hp
  refine CallW.res hp [] rfl Try.call184 ?_ (.inl rfl) ?_
  · simp -implicitDefEqProofs only [agR, Nat.reduceLeDiff, Nat.reduceSub, vaR, go_sem, ints, rows, rat, rats, ratsO, rtR, intsO, rowsO]
  simp -implicitDefEqProofs only [clR, Nat.reduceLeDiff, go_sem, evR, rat, opR, Nat.reduceBEq]
  have hq := spec_l21HighCard_w l' ⟨by have := hl'.1.1; omega, hl'.1.2⟩ 3 (by omega) false
  simp only [treeT, nodes, gameO, nodesO, rowsO, show ((3 : Nat) : Int) = 3 from rfl] at hq
  refine CallW.exi hq [] [8001] rfl Try.call185 (by simp) ?_ (by simp) ?_ (.inr (fun g => ⟨gameO_noSh g, trivial⟩)) (fun g hg => ?_)
  · simp -implicitDefEqProofs only [srR, Nat.reduceEqDiff, ↓reduceIte, ints, rows, intsO, rowsO]
  · simp -implicitDefEqProofs only [agR, Nat.reduceLeDiff, Nat.reduceSub, vaR, go_sem, ints, rows, rat, rats, ratsO, rtR, intsO, rowsO]
  simp -implicitDefEqProofs only [clR, Nat.reduceLeDiff, go_sem, evR, rat, opR, Nat.reduceBEq]
  obtain ⟨g1, g2, g3, g4, g5⟩ := hg
  exact ⟨g, rfl, ⟨by rw [g1]; have := hl'.1.1; omega, by rw [g1]; exact hl'.1.2⟩, 3, by omega, by omega, ⟨g2, g3⟩, ⟨g4, g5⟩⟩
set_option maxRecDepth 20000 in
theorem spec_l21Valid_w (cs : List Int) (hc : bytesOK cs) (hl : cs.length ≤ 100000000000) (a : Nat × Int) (ha : seedOK a) : Fun Try.prog 222 [.box [bytes cs, .i a.1, .i a.2]] [.own 1000000000] fun o r => ∃ x : Gm × (Nat × Int), o = [.box [bytes cs, .i x.2.1, .i x.2.2]] ∧ r = .agg [nodesO x.1.nd, rowsO x.1.w, rowsO x.1.v] ∧ (drG x.1 ∧ seedOK x.2) := by
  refine fun_spec_l21Valid_h (by simp) ?_
  simp -implicitDefEqProofs only [go_sem, evR, ints, rows, rat, rats, c_spec_l21Valid_h]
  refine CallW.ref (next_box cs hc hl a ha 6 (by omega)) [1000000000] [] rfl Try.call126 (by simp) ?_ (by simp) ?_ (.inl rfl) ?_
  · simp -implicitDefEqProofs only [srR, Nat.reduceEqDiff, ↓reduceIte, ints, rows, intsO, rowsO]
  · simp -implicitDefEqProofs only [agR, Nat.reduceLeDiff, Nat.reduceSub, vaR, go_sem, ints, rows, rat, rats, ratsO, rtR, intsO, rowsO]
  simp -implicitDefEqProofs only [clR, Nat.reduceLeDiff, go_sem, evR, rat]
  have hs1 := nextS_seed (cs := cs) hl ha 6
  generalize nextS cs a 6 = z at hs1 ⊢
  obtain ⟨k, b⟩ := z
  simp only [] at hs1 ⊢
  refine ⟨fun h0 => ?_, fun h0 => ⟨fun h1 => ?_, fun h1 => ?_⟩⟩
  · have hp := spec_KuhnGame_w
    simp only [gameO, nodesO, rowsO] at hp
    refine CallW.exi hp [] [] rfl Try.call127 (by simp) ?_ (by simp) ?_ (.inl rfl) (fun g hg => ?_)
    · simp -implicitDefEqProofs only [srR, Nat.reduceEqDiff, ↓reduceIte, ints, rows, intsO, rowsO]
    · simp -implicitDefEqProofs only [agR, Nat.reduceLeDiff, Nat.reduceSub, vaR, go_sem, ints, rows, rat, rats, ratsO, rtR, intsO, rowsO]
    simp -implicitDefEqProofs only [clR, Nat.reduceLeDiff, go_sem, evR, rat, opR, Nat.reduceBEq]
    exact ⟨(g, b), rfl, rfl, hg, hs1⟩
  · obtain ⟨⟨l, c⟩, ⟨hx1, hx2, hx3⟩, hV⟩ := spec_l20Valid_ok cs hc hl b hs1
    simp only [nodesO] at hx1 hx2 hx3 hV
    refine CallW.ref hV [1000000000] [] rfl Try.call227 (by simp) ?_ (by simp) ?_ (.inl rfl) ?_
    · simp -implicitDefEqProofs only [srR, Nat.reduceEqDiff, ↓reduceIte, ints, rows, intsO, rowsO]
    · simp -implicitDefEqProofs only [agR, Nat.reduceLeDiff, Nat.reduceSub, vaR, go_sem, ints, rows, rat, rats, ratsO, rtR, intsO, rowsO]
    simp -implicitDefEqProofs only [clR, Nat.reduceLeDiff, go_sem, evR, rat]
    refine CallW.ref (next_box cs hc hl c hx3 2 (by omega)) [1000000000] [] rfl Try.call126 (by simp) ?_ (by simp) ?_ (.inl rfl) ?_
    · simp -implicitDefEqProofs only [srR, Nat.reduceEqDiff, ↓reduceIte, ints, rows, intsO, rowsO]
    · simp -implicitDefEqProofs only [agR, Nat.reduceLeDiff, Nat.reduceSub, vaR, go_sem, ints, rows, rat, rats, ratsO, rtR, intsO, rowsO]
    simp -implicitDefEqProofs only [clR, Nat.reduceLeDiff, go_sem, evR, rat]
    have hs2 := nextS_seed (cs := cs) hl hx3 2
    have hb2 := nextS_bound (cs := cs) (a := c) (n := 2) (by omega)
    generalize nextS cs c 2 = z at hs2 hb2 ⊢
    obtain ⟨q, d⟩ := z
    simp only [] at hs2 hb2 ⊢
    obtain ⟨k, hk⟩ : ∃ n : Nat, IntKind.i64.wrap (2 + q) = n := ⟨(2 + q).toNat, by rw [wrap64 (by omega) (by omega)]; omega⟩
    have hk3 : 2 ≤ k ∧ k ≤ 3 := by rw [wrap64 (by omega) (by omega)] at hk; omega
    simp only [hk]
    have hq := spec_l21HighCard_w l ⟨by have := hx1.1; omega, hx1.2⟩ k (by omega) true
    simp only [treeT, nodes, gameO, nodesO, rowsO] at hq
    refine CallW.exi hq [] [15] rfl Try.call185 (by simp) ?_ (by simp) ?_ (.inr (fun g => ⟨gameO_noSh g, trivial⟩)) (fun g hg => ?_)
    · simp -implicitDefEqProofs only [srR, Nat.reduceEqDiff, ↓reduceIte, ints, rows, intsO, rowsO]
    · simp -implicitDefEqProofs only [agR, Nat.reduceLeDiff, Nat.reduceSub, vaR, go_sem, ints, rows, rat, rats, ratsO, rtR, intsO, rowsO]
    simp -implicitDefEqProofs only [clR, Nat.reduceLeDiff, go_sem, evR, rat, opR, Nat.reduceBEq]
    obtain ⟨g1, g2, g3, g4, g5⟩ := hg
    exact ⟨(g, d), rfl, rfl, ⟨⟨by rw [g1]; have := hx1.1; omega, by rw [g1]; exact hx1.2⟩, k, by omega, by omega, ⟨g2, g3⟩, ⟨g4, g5⟩⟩, hs2⟩
  · refine CallW.ref (next_box cs hc hl b hs1 3 (by omega)) [1000000000] [] rfl Try.call126 (by simp) ?_ (by simp) ?_ (.inl rfl) ?_
    · simp -implicitDefEqProofs only [srR, Nat.reduceEqDiff, ↓reduceIte, ints, rows, intsO, rowsO]
    · simp -implicitDefEqProofs only [agR, Nat.reduceLeDiff, Nat.reduceSub, vaR, go_sem, ints, rows, rat, rats, ratsO, rtR, intsO, rowsO]
    simp -implicitDefEqProofs only [clR, Nat.reduceLeDiff, go_sem, evR, rat]
    have hs2 := nextS_seed (cs := cs) hl hs1 3
    have hb2 := nextS_bound (cs := cs) (a := b) (n := 3) (by omega)
    generalize nextS cs b 3 = z at hs2 hb2 ⊢
    obtain ⟨q, d⟩ := z
    simp only [] at hs2 hb2 ⊢
    obtain ⟨k, hk⟩ : ∃ n : Nat, IntKind.i64.wrap (1 + q) = n := ⟨(1 + q).toNat, by rw [wrap64 (by omega) (by omega)]; omega⟩
    have hk3 : 1 ≤ k ∧ k ≤ 3 := by rw [wrap64 (by omega) (by omega)] at hk; omega
    simp only [hk]
    obtain ⟨⟨l, c⟩, ⟨hx1, hx2, hx3⟩, hV⟩ := spec_l20Valid_ok cs hc hl d hs2
    simp only [nodesO] at hx1 hx2 hx3 hV
    refine CallW.ref hV [1000000000] [] rfl Try.call227 (by simp) ?_ (by simp) ?_ (.inl rfl) ?_
    · simp -implicitDefEqProofs only [srR, Nat.reduceEqDiff, ↓reduceIte, ints, rows, intsO, rowsO]
    · simp -implicitDefEqProofs only [agR, Nat.reduceLeDiff, Nat.reduceSub, vaR, go_sem, ints, rows, rat, rats, ratsO, rtR, intsO, rowsO]
    simp -implicitDefEqProofs only [clR, Nat.reduceLeDiff, go_sem, evR, rat]
    have hq := spec_l21HighCard_w l ⟨by have := hx1.1; omega, hx1.2⟩ k (by omega) true
    simp only [treeT, nodes, gameO, nodesO, rowsO] at hq
    refine CallW.exi hq [] [24] rfl Try.call185 (by simp) ?_ (by simp) ?_ (.inr (fun g => ⟨gameO_noSh g, trivial⟩)) (fun g hg => ?_)
    · simp -implicitDefEqProofs only [srR, Nat.reduceEqDiff, ↓reduceIte, ints, rows, intsO, rowsO]
    · simp -implicitDefEqProofs only [agR, Nat.reduceLeDiff, Nat.reduceSub, vaR, go_sem, ints, rows, rat, rats, ratsO, rtR, intsO, rowsO]
    simp -implicitDefEqProofs only [clR, Nat.reduceLeDiff, go_sem, evR, rat, opR, Nat.reduceBEq]
    obtain ⟨g1, g2, g3, g4, g5⟩ := hg
    obtain rfl : g.nd = l := g1
    refine SemC.loopR (σ := Nat × (List (List Int) × List (List Int)) × (Nat × Int)) (fun s => St.of [(0, .own 1000000000), (2, .own 2), (3, .t (.i k)), (4, .own 4), (5, .t (.i s.1))] [(1000000000, .box [bytes cs, .i s.2.2.1, .i s.2.2.2]), (2, .box [.v (.slice none 0 0), .v (.slice none 0 0), .v (.slice none 0 0)]), (4, .box [nodesO g.nd, rowsO s.2.1.1, rowsO s.2.1.2])]) (fun s => s.1 ≤ k ∧ matOK k s.2.1.1 ∧ matOK k s.2.1.2 ∧ seedOK s.2.2) (fun s => k - s.1) (0, (g.w, g.v), c) (Weak.of _ _ [some 1000000000, some 2, some 4] (by simp) (by simp) ?_ ?_) ⟨by simp, ⟨g2, g3⟩, ⟨g4, g5⟩, hx3⟩ fun s hI R hn hr he => ?_
    · simp -implicitDefEqProofs only [ints, rows, Nat.reduceBEq, wkR, Nat.reduceEqDiff, ↓reduceIte, wrR, nodesO]
    · exact ⟨⟨_, rfl, .refl _⟩, rfl, ⟨_, rfl, .refl _⟩, rfl, ⟨_, rfl, .refl _⟩, rfl, trivial⟩
    obtain ⟨i, ⟨w, v⟩, e⟩ := s
    obtain ⟨i1, i2, i3, i4⟩ := hI
    (try simp only [] at i1 i2 i3 i4)
    rcases Nat.lt_or_ge i k with h9 | h9
    · simp -implicitDefEqProofs only [go_sem, evR, ints, rows, rat, rats, nodesO, rowsO, decide_eq_true (show (i : Int) < (k : Int) by omega)]
      refine SemC.loopR (σ := Nat × (List (List Int) × List (List Int)) × (Nat × Int)) (fun s => St.of [(0, .own 1000000000), (2, .own 2), (3, .t (.i k)), (4, .own 4), (5, .t (.i i)), (6, .t (.i s.1))] [(1000000000, .box [bytes cs, .i s.2.2.1, .i s.2.2.2]), (2, .box [.v (.slice none 0 0), .v (.slice none 0 0), .v (.slice none 0 0)]), (4, .box [nodesO g.nd, rowsO s.2.1.1, rowsO s.2.1.2])]) (fun s => s.1 ≤ k ∧ matOK k s.2.1.1 ∧ matOK k s.2.1.2 ∧ seedOK s.2.2) (fun s => k - s.1) (0, (w, v), e) (Weak.of _ _ [some 1000000000, some 2, some 4] (by simp) (by simp) ?_ ?_) ⟨by simp, i2, i3, i4⟩ fun s hI R2 hn2 hr2 he2 => ?_
      · simp -implicitDefEqProofs only [ints, rows, Nat.reduceBEq, wkR, Nat.reduceEqDiff, ↓reduceIte, wrR, nodesO]
      · exact ⟨⟨_, rfl, .refl _⟩, rfl, ⟨_, rfl, .refl _⟩, rfl, ⟨_, rfl, .refl _⟩, rfl, trivial⟩
      obtain ⟨j, ⟨w', v'⟩, f⟩ := s
      obtain ⟨j1, j2, j3, j4⟩ := hI
      (try simp only [] at j1 j2 j3 j4)
      obtain ⟨r0, hr0, hr0l⟩ := matOK_get j2 h9
      obtain ⟨s0, hs0, hs0l⟩ := matOK_get j3 h9
      rcases Nat.lt_or_ge j k with h8 | h8
      · simp -implicitDefEqProofs only [go_sem, evR, ints, rows, rat, rats, nodesO, rowsO, decide_eq_true (show (j : Int) < (k : Int) by omega)]
        refine ⟨_, Weak.trans (Weak.open 4 1 501 rfl rfl rfl (by decide) rfl) (Weak.open 501 i 502 (l := w'.map intsO) (lk := []) (c := intsO r0) rfl (by rw [List.getElem?_map, hr0]; rfl) rfl (by decide) rfl), ?_⟩
        simp -implicitDefEqProofs only [go_sem, evR, ints, rows, rat, rats, List.lookup_cons, beq_self_eq_true, intsO, List.length_set]
        have hwl : w'.length = k := j2.1
        have hvl : v'.length = k := j3.1
        refine ⟨by omega, by omega, by omega, ?_⟩
        refine CallH.ref (next_box cs hc hl f j4 4 (by omega)) [1000000000] [] rfl Try.call126 (by simp) ?_ (by simp) (fun e R' hR => ?_) (.inl rfl) ?_
        · simp -implicitDefEqProofs only [srR, Nat.reduceEqDiff, ↓reduceIte, ints, rows, intsO, rowsO]
        · simp -implicitDefEqProofs only [agR, Nat.reduceLeDiff, Nat.reduceSub, vaR, go_sem, ints, rows, rat, rats, ratsO, rtR, intsO, rowsO]
        simp -implicitDefEqProofs only [clR, Nat.reduceLeDiff, go_sem, evR, rat]
        have hs5 := nextS_seed (cs := cs) hl j4 4
        generalize nextS cs f 4 = z at hs5 ⊢
        obtain ⟨y, f2⟩ := z
        simp only [] at hs5 ⊢
        refine ⟨?_, (frameOK.refl _ _ _).upd _ (.inl (by simp))⟩
        refine ⟨by omega, by omega, by omega, ?_⟩
        refine CallW.ref (next_box cs hc hl f2 hs5 4 (by omega)) [1000000000] [] rfl Try.call126 (by simp) ?_ (by simp) ?_ (.inl rfl) ?_
        · simp -implicitDefEqProofs only [srR, Nat.reduceEqDiff, ↓reduceIte, ints, rows, intsO, rowsO]
        · simp -implicitDefEqProofs only [agR, Nat.reduceLeDiff, Nat.reduceSub, vaR, go_sem, ints, rows, rat, rats, ratsO, rtR, intsO, rowsO]
        simp -implicitDefEqProofs only [clR, Nat.reduceLeDiff, go_sem, evR, rat]
        have hs6 := nextS_seed (cs := cs) hl hs5 4
        generalize nextS cs f2 4 = z at hs6 ⊢
        obtain ⟨y2, f3⟩ := z
        simp only [] at hs6 ⊢
        have hany : ((w'.map intsO).set i T.any)[i]? = some .any := by rw [List.getElem?_set_self (by rw [List.length_map]; omega)]
        have hany2 : ((v'.map intsO).set i T.any)[i]? = some .any := by rw [List.getElem?_set_self (by rw [List.length_map]; omega)]
        have hrow : ((w'.map intsO).set i T.any).set i (.arr 1 ((r0.map T.i).set j (.i y))) = (w'.set i (r0.set j y)).map intsO := by
          rw [List.set_set, List.map_set, intsO, List.map_set]
        refine ⟨fun hz => ?_, fun hz => ?_⟩
        · refine ⟨_, Weak.trans (Weak.close1 501 i 502 rfl rfl (by decide) hany) (Weak.trans (Weak.close1 4 1 501 rfl rfl (by decide) rfl) (Weak.trans (Weak.open 4 2 503 rfl rfl rfl (by decide) rfl) (Weak.open 503 i 504 (l := v'.map intsO) (lk := []) (c := intsO s0) rfl (by rw [List.getElem?_map, hs0]; rfl) rfl (by decide) rfl))), ?_⟩
          simp -implicitDefEqProofs only [go_sem, evR, ints, rows, rat, rats, List.lookup_cons, beq_self_eq_true, intsO, List.length_set]
          refine ⟨by omega, by omega, by omega, ?_⟩
          refine CallH.ref (next_box cs hc hl f3 hs6 3 (by omega)) [1000000000] [] rfl Try.call126 (by simp) ?_ (by simp) (fun e R' hR => ?_) (.inl rfl) ?_
          · simp -implicitDefEqProofs only [srR, Nat.reduceEqDiff, ↓reduceIte, ints, rows, intsO, rowsO]
          · simp -implicitDefEqProofs only [agR, Nat.reduceLeDiff, Nat.reduceSub, vaR, go_sem, ints, rows, rat, rats, ratsO, rtR, intsO, rowsO]
          simp -implicitDefEqProofs only [clR, Nat.reduceLeDiff, go_sem, evR, rat]
          have hs7 := nextS_seed (cs := cs) hl hs6 3
          generalize nextS cs f3 3 = z at hs7 ⊢
          obtain ⟨y3, f4⟩ := z
          simp only [] at hs7 ⊢
          have hrow2 : ((v'.map intsO).set i T.any).set i (.arr 1 ((s0.map T.i).set j (.i (IntKind.i64.wrap (y3 - 1))))) = (v'.set i (s0.set j (IntKind.i64.wrap (y3 - 1)))).map intsO := by
            rw [List.set_set, List.map_set, intsO, List.map_set]
          refine ⟨?_, (frameOK.refl _ _ _).upd _ (.inl (by simp))⟩
          refine ⟨by omega, by omega, by omega, ?_⟩
          refine hn2 _ (j + 1, (w'.set i (r0.set j y), v'.set i (s0.set j (IntKind.i64.wrap (y3 - 1)))), f4) (Weak.trans (Weak.close1 503 i 504 rfl rfl (by decide) hany2) (Weak.trans (Weak.close1 4 2 503 rfl rfl (by decide) rfl) (Weak.of _ _ [some 1000000000, some 2, some 4] (by simp) (by simp) ?_ ?_))) ⟨by omega, matOK_set j2 _ (by rw [List.length_set]; exact hr0l), matOK_set j3 _ (by rw [List.length_set]; exact hs0l), hs7⟩ (by show k - (j + 1) < k - j; omega)
          · simp -implicitDefEqProofs only [ints, rows, Nat.reduceBEq, wkR, Nat.reduceEqDiff, ↓reduceIte, wrR, nodesO, next64 h8 (by omega)]
          · refine ⟨⟨_, rfl, .refl _⟩, rfl, ⟨_, rfl, .refl _⟩, rfl, ⟨_, rfl, ?_⟩, rfl, trivial⟩
            have hrow1 : (w'.map intsO).set i (.arr 1 ((r0.map T.i).set j (.i y))) = (w'.set i (r0.set j y)).map intsO := by rw [List.map_set, intsO, List.map_set]
            rw [hrow2, hrow1]; exact .refl _
        · refine hn2 _ (j + 1, (w'.set i (r0.set j y), v'), f3) (Weak.trans (Weak.close1 501 i 502 rfl rfl (by decide) hany) (Weak.trans (Weak.close1 4 1 501 rfl rfl (by decide) rfl) (Weak.of _ _ [some 1000000000, some 2, some 4] (by simp) (by simp) ?_ ?_))) ⟨by omega, matOK_set j2 _ (by rw [List.length_set]; exact hr0l), j3, hs6⟩ (by show k - (j + 1) < k - j; omega)
          · simp -implicitDefEqProofs only [ints, rows, Nat.reduceBEq, wkR, Nat.reduceEqDiff, ↓reduceIte, wrR, nodesO, next64 h8 (by omega)]
          · refine ⟨⟨_, rfl, .refl _⟩, rfl, ⟨_, rfl, .refl _⟩, rfl, ⟨_, rfl, ?_⟩, rfl, trivial⟩
            rw [hrow]; exact .refl _
      · simp -implicitDefEqProofs only [go_sem, evR, ints, rows, rat, rats, nodesO, rowsO, decide_eq_false (show ¬ (j : Int) < (k : Int) by omega)]
        refine he2 _ _ ?_
        simp -implicitDefEqProofs only [go_sem, evR, ints, rows, rat, rats, nodesO, rowsO]
        refine hn _ (i + 1, (w', v'), f) (Weak.of _ _ [some 1000000000, some 2, some 4] (by simp) (by simp) ?_ ?_) ⟨by omega, j2, j3, j4⟩ (by show k - (i + 1) < k - i; omega)
        · simp -implicitDefEqProofs only [ints, rows, Nat.reduceBEq, wkR, Nat.reduceEqDiff, ↓reduceIte, wrR, nodesO, next64 h9 (by omega)]
        · exact ⟨⟨_, rfl, .refl _⟩, rfl, ⟨_, rfl, .refl _⟩, rfl, ⟨_, rfl, .refl _⟩, rfl, trivial⟩
    · simp -implicitDefEqProofs only [go_sem, evR, ints, rows, rat, rats, nodesO, rowsO, decide_eq_false (show ¬ (i : Int) < (k : Int) by omega)]
      refine he _ _ ?_
      simp -implicitDefEqProofs only [go_sem, evR, ints, rows, rat, rats, nodesO, rowsO]
      obtain ⟨r0, hr0, hr0l⟩ := matOK_get i2 (a := 0) (by omega)
      obtain ⟨y, hy⟩ : ∃ y, r0[0]? = some y := ⟨_, List.getElem?_eq_getElem (by omega)⟩
      have hwl : w.length = k := i2.1
      refine ⟨_, Weak.trans (Weak.open 4 1 501 rfl rfl rfl (by decide) rfl) (Weak.open 501 0 502 (l := w.map intsO) (lk := []) (c := intsO r0) rfl (by rw [List.getElem?_map, hr0]; rfl) rfl (by decide) rfl), ?_⟩
      simp -implicitDefEqProofs only [go_sem, evR, ints, rows, rat, rats, List.lookup_cons, beq_self_eq_true, intsO, List.length_set, hy]
      have hany : ((w.map intsO).set 0 T.any)[0]? = some .any := by rw [List.getElem?_set_self (by rw [List.length_map]; omega)]
      refine ⟨by omega, by omega, by omega, by omega, by omega, by omega, by omega, by omega, _, Weak.trans (Weak.close1 501 0 502 rfl rfl (by decide) hany) (Weak.close1 4 1 501 rfl rfl (by decide) rfl), ?_⟩
      simp -implicitDefEqProofs only [go_sem, evR, ints, rows, rat, rats, opR, Nat.reduceBEq, List.set_set]
      refine ⟨(⟨g.nd, w.set 0 (r0.set 0 (max 1 y)), v⟩, e), rfl, ?_, ⟨⟨by have := hx1.1; show g.nd.length ≤ 101; omega, hx1.2⟩, k, by omega, by omega, matOK_set i2 _ (by rw [List.length_set]; exact hr0l), i3⟩, i4⟩
      simp only [List.map_set, intsO]
def drawnG (b : Bool) (g : Gm) : T := .agg [if b then nodes g.nd else .arr 5 (chunk nodeC g.nd), rows g.w, rows g.v]
set_option maxRecDepth 20000 in
theorem spec_l21Draw_w (cs : List Int) (hc : bytesOK cs) (hl : cs.length ≤ 100000000000) (a : Nat × Int) (ha : seedOK a) : Fun Try.prog 190 [.box [bytes cs, .i a.1, .i a.2]] [.own 1000000000] fun o r => ∃ x : (Gm × Bool) × (Nat × Int), o = [.box [bytes cs, .i x.2.1, .i x.2.2]] ∧ r = drawnG x.1.2 x.1.1 ∧ (smallG x.1.1 ∧ seedOK x.2) := by
  refine fun_spec_l21Draw_h (by simp) ?_
  simp -implicitDefEqProofs only [go_sem, evR, ints, rows, rat, rats, c_spec_l21Draw_h]
  have hp0 := spec_l21Valid_w cs hc hl a ha
  simp only [nodesO, rowsO] at hp0
  refine CallW.exi hp0 [1000000000] [] rfl Try.call222 (by simp) ?_ (by simp) ?_ (.inl rfl) (fun x hx => ?_)
  · simp -implicitDefEqProofs only [srR, Nat.reduceEqDiff, ↓reduceIte, ints, rows, intsO, rowsO]
  · simp -implicitDefEqProofs only [agR, Nat.reduceLeDiff, Nat.reduceSub, vaR, go_sem, ints, rows, rat, rats, ratsO, rtR, intsO, rowsO]
  simp -implicitDefEqProofs only [clR, Nat.reduceLeDiff, go_sem, evR, rat, opR, Nat.reduceBEq]
  obtain ⟨g, e⟩ := x
  obtain ⟨⟨hx1, K, hK1, hK2, hw, hv⟩, hx3⟩ := hx
  (try simp only [] at hx1 hx3 hw hv)
  have hwl := hw.1
  have hvl := hv.1
  (try simp only [])
  refine CallW.ref (next_box cs hc hl e hx3 g.w.length (by omega)) [1000000000] [] rfl Try.call126 (by simp) ?_ (by simp) ?_ (.inl rfl) ?_
  · simp -implicitDefEqProofs only [srR, Nat.reduceEqDiff, ↓reduceIte, ints, rows, intsO, rowsO]
  · simp -implicitDefEqProofs only [agR, Nat.reduceLeDiff, Nat.reduceSub, vaR, go_sem, ints, rows, rat, rats, ratsO, rtR, intsO, rowsO]
  simp -implicitDefEqProofs only [clR, Nat.reduceLeDiff, go_sem, evR, rat]
  have hs1 := nextS_seed (cs := cs) hl hx3 g.w.length
  have hb1 := nextS_bound (cs := cs) (a := e) (n := g.w.length) (by omega)
  generalize nextS cs e g.w.length = z at hs1 hb1 ⊢
  obtain ⟨k, b⟩ := z
  simp only [] at hs1 hb1 ⊢
  obtain ⟨k, rfl⟩ : ∃ n : Nat, k = n := ⟨k.toNat, by omega⟩
  refine CallW.ref (next_box cs hc hl b hs1 24 (by omega)) [1000000000] [] rfl Try.call126 (by simp) ?_ (by simp) ?_ (.inl rfl) ?_
  · simp -implicitDefEqProofs only [srR, Nat.reduceEqDiff, ↓reduceIte, ints, rows, intsO, rowsO]
  · simp -implicitDefEqProofs only [agR, Nat.reduceLeDiff, Nat.reduceSub, vaR, go_sem, ints, rows, rat, rats, ratsO, rtR, intsO, rowsO]
  simp -implicitDefEqProofs only [clR, Nat.reduceLeDiff, go_sem, evR, rat, List.lookup_cons, beq_self_eq_true]
  have hs2 := nextS_seed (cs := cs) hl hs1 24
  generalize nextS cs b 24 = z at hs2 ⊢
  obtain ⟨q, c⟩ := z
  simp only [] at hs2 ⊢
  obtain ⟨r0, hr0, hr0l⟩ := matOK_get hw (a := k) (by omega)
  obtain ⟨s0, hs0, hs0l⟩ := matOK_get hv (a := k) (by omega)
  have hsm := drG_small (g := g) ⟨hx1, K, hK1, hK2, hw, hv⟩
  have hany : ((g.w.map intsO).set k T.any)[k]? = some .any := by rw [List.getElem?_set_self (by rw [List.length_map]; omega)]
  have hany2 : ((g.v.map intsO).set k T.any)[k]? = some .any := by rw [List.getElem?_set_self (by rw [List.length_map]; omega)]
  refine ⟨fun q0 => ?_, fun q0 => ⟨fun q1 => ?_, fun q1 => ⟨fun q2 => ?_, fun q2 => ⟨fun q3 => ?_, fun q3 => ?_⟩⟩⟩⟩
  · refine ⟨_, Weak.open 9 k 502 (l := g.w.map intsO) (lk := []) (c := intsO r0) rfl (by rw [List.getElem?_map, hr0]; rfl) rfl (by decide) rfl, ?_⟩
    simp -implicitDefEqProofs only [go_sem, evR, ints, rows, rat, rats, List.lookup_cons, beq_self_eq_true, intsO, List.length_set]
    have hp := pick_own cs hc hl c hs2 [-1, 0, 9, 10] (by simp) (by simp)
    simp only [intsO, List.map_cons, List.map_nil] at hp
    refine ⟨by omega, by omega, by omega, ?_⟩
    refine CallH.ref hp [1000000000, 22] [] rfl Try.call147 (by simp) ?_ (by simp) (fun e R' hR => ?_) (.inl rfl) ?_
    · simp -implicitDefEqProofs only [srR, Nat.reduceEqDiff, ↓reduceIte, ints, rows, intsO, rowsO]
    · simp -implicitDefEqProofs only [agR, Nat.reduceLeDiff, Nat.reduceSub, vaR, go_sem, ints, rows, rat, rats, ratsO, rtR, intsO, rowsO]
    simp -implicitDefEqProofs only [clR, Nat.reduceLeDiff, go_sem, evR, rat]
    have hs3 := pickS_seed (cs := cs) hl hs2 [-1, 0, 9, 10]
    generalize pickS cs c [-1, 0, 9, 10] = z at hs3 ⊢
    obtain ⟨v, d⟩ := z
    simp only [] at hs3 ⊢
    have hrow : ((g.w.map intsO).set k T.any).set k (.arr 1 ((r0.map T.i).set 0 (.i v))) = (g.w.set k (r0.set 0 v)).map intsO := by
      rw [List.set_set, List.map_set, intsO, List.map_set]
    refine ⟨?_, ((frameOK.refl _ _ _).upd _ (.inl (by simp))).upd _ (.inl (by simp))⟩
    refine ⟨by omega, by omega, _, Weak.trans (Weak.close1 9 k 502 rfl rfl (by decide) hany) (Weak.trans (Weak.close1 3 1 9 rfl rfl (by decide) rfl) (Weak.trans (Weak.share 3 rfl) (Weak.of [(0, .own 1000000000), (2, .own 2), (3, .t (.pin [nodes g.nd, rows (g.w.set k (r0.set 0 v)), rows g.v] 0))] [(1000000000, .box [bytes cs, .i d.1, .i d.2]), (2, .box [.v (.slice none 0 0), .v (.slice none 0 0), .v (.slice none 0 0)])] [some 1000000000, some 2] (by simp) (by simp) ?_ ?_))), ?_⟩
    · simp -implicitDefEqProofs only [ints, rows, Nat.reduceBEq, wkR, Nat.reduceEqDiff, ↓reduceIte, wrR, shareA, T.toSh, T.toShL, toShL_chunk, toShL_intsO, nodes, List.set_cons_succ, List.set_cons_zero, hrow]
    · exact ⟨⟨_, rfl, .refl _⟩, rfl, ⟨_, rfl, .refl _⟩, rfl, trivial⟩
    simp -implicitDefEqProofs only [go_sem, evR, ints, rows, rat, rats, nodes]
    exact ⟨((⟨g.nd, g.w.set k (r0.set 0 v), g.v⟩, true), d), rfl, rfl, drG_small ⟨hx1, K, hK1, hK2, matOK_set hw _ (by rw [List.length_set]; exact hr0l), hv⟩, hs3⟩
  · refine ⟨_, Weak.trans (Weak.open 3 2 503 rfl rfl rfl (by decide) rfl) (Weak.open 503 k 504 (l := g.v.map intsO) (lk := []) (c := intsO s0) rfl (by rw [List.getElem?_map, hs0]; rfl) rfl (by decide) rfl), ?_⟩
    simp -implicitDefEqProofs only [go_sem, evR, ints, rows, rat, rats, List.lookup_cons, beq_self_eq_true, intsO, List.length_set]
    have hp := pick_own cs hc hl c hs2 [-2, 2] (by simp) (by simp)
    simp only [intsO, List.map_cons, List.map_nil] at hp
    refine ⟨by omega, by omega, by omega, ?_⟩
    refine CallH.ref hp [1000000000, 33] [] rfl Try.call147 (by simp) ?_ (by simp) (fun e R' hR => ?_) (.inl rfl) ?_
    · simp -implicitDefEqProofs only [srR, Nat.reduceEqDiff, ↓reduceIte, ints, rows, intsO, rowsO]
    · simp -implicitDefEqProofs only [agR, Nat.reduceLeDiff, Nat.reduceSub, vaR, go_sem, ints, rows, rat, rats, ratsO, rtR, intsO, rowsO]
    simp -implicitDefEqProofs only [clR, Nat.reduceLeDiff, go_sem, evR, rat]
    have hs3 := pickS_seed (cs := cs) hl hs2 [-2, 2]
    generalize pickS cs c [-2, 2] = z at hs3 ⊢
    obtain ⟨v, d⟩ := z
    simp only [] at hs3 ⊢
    have hrow : ((g.v.map intsO).set k T.any).set k (.arr 1 ((s0.map T.i).set 0 (.i v))) = (g.v.set k (s0.set 0 v)).map intsO := by
      rw [List.set_set, List.map_set, intsO, List.map_set]
    refine ⟨?_, ((frameOK.refl _ _ _).upd _ (.inl (by simp))).upd _ (.inl (by simp))⟩
    refine ⟨by omega, by omega, _, Weak.trans (Weak.close1 503 k 504 rfl rfl (by decide) hany2) (Weak.trans (Weak.close 3 2 503 rfl rfl (by decide) rfl (by simp)) (Weak.trans (Weak.close1 3 1 9 rfl rfl (by decide) rfl) (Weak.trans (Weak.share 3 rfl) (Weak.of [(0, .own 1000000000), (2, .own 2), (3, .t (.pin [nodes g.nd, rows g.w, rows (g.v.set k (s0.set 0 v))] 0))] [(1000000000, .box [bytes cs, .i d.1, .i d.2]), (2, .box [.v (.slice none 0 0), .v (.slice none 0 0), .v (.slice none 0 0)])] [some 1000000000, some 2] (by simp) (by simp) ?_ ?_)))), ?_⟩
    · simp -implicitDefEqProofs only [ints, rows, Nat.reduceBEq, wkR, Nat.reduceEqDiff, ↓reduceIte, wrR, shareA, T.toSh, T.toShL, toShL_chunk, toShL_intsO, nodes, List.set_cons_succ, List.set_cons_zero, hrow]
    · exact ⟨⟨_, rfl, .refl _⟩, rfl, ⟨_, rfl, .refl _⟩, rfl, trivial⟩
    simp -implicitDefEqProofs only [go_sem, evR, ints, rows, rat, rats, nodes]
    exact ⟨((⟨g.nd, g.w, g.v.set k (s0.set 0 v)⟩, true), d), rfl, rfl, drG_small ⟨hx1, K, hK1, hK2, hw, matOK_set hv _ (by rw [List.length_set]; exact hs0l)⟩, hs3⟩
  · refine ⟨_, Weak.trans (Weak.close1 3 1 9 rfl rfl (by decide) rfl) (Weak.trans (Weak.share 3 rfl) (Weak.of [(0, .own 1000000000), (2, .own 2), (3, .t (.pin [nodes g.nd, rows g.w, rows g.v] 0))] [(1000000000, .box [bytes cs, .i c.1, .i c.2]), (2, .box [.v (.slice none 0 0), .v (.slice none 0 0), .v (.slice none 0 0)])] [some 1000000000, some 2] (by simp) (by simp) ?_ ?_)), ?_⟩
    · simp -implicitDefEqProofs only [ints, rows, Nat.reduceBEq, wkR, Nat.reduceEqDiff, ↓reduceIte, wrR, shareA, T.toSh, T.toShL, toShL_chunk, toShL_intsO, nodes, List.set_cons_succ, List.set_cons_zero]
    · exact ⟨⟨_, rfl, .refl _⟩, rfl, ⟨_, rfl, .refl _⟩, rfl, trivial⟩
    simp -implicitDefEqProofs only [go_sem, evR, ints, rows, rat, rats, nodes]
    refine ⟨by omega, by omega, ((⟨g.nd, g.w, g.v.drop 1⟩, true), c), rfl, ?_, ⟨hsm.1, hsm.2.1, hsm.2.2.1, by show (g.v.drop 1).length ≤ 4; rw [List.length_drop]; omega, fun r hr => hsm.2.2.2.2 r (List.mem_of_mem_drop hr)⟩, hs2⟩
    rw [List.take_of_length_le (by rw [List.length_drop, List.length_map]; omega), ← List.map_drop]; rfl
  · refine ⟨_, Weak.trans (Weak.close1 3 1 9 rfl rfl (by decide) rfl) (Weak.trans (Weak.share 3 rfl) (Weak.of [(0, .own 1000000000), (2, .own 2), (3, .t (.pin [nodes g.nd, rows g.w, rows g.v] 0))] [(1000000000, .box [bytes cs, .i c.1, .i c.2]), (2, .box [.v (.slice none 0 0), .v (.slice none 0 0), .v (.slice none 0 0)])] [some 1000000000, some 2] (by simp) (by simp) ?_ ?_)), ?_⟩
    · simp -implicitDefEqProofs only [ints, rows, Nat.reduceBEq, wkR, Nat.reduceEqDiff, ↓reduceIte, wrR, shareA, T.toSh, T.toShL, toShL_chunk, toShL_intsO, nodes, List.set_cons_succ, List.set_cons_zero]
    · exact ⟨⟨_, rfl, .refl _⟩, rfl, ⟨_, rfl, .refl _⟩, rfl, trivial⟩
    simp -implicitDefEqProofs only [go_sem, evR, ints, rows, rat, rats, nodes]
    obtain ⟨⟨⟨l2, bb⟩, d⟩, ⟨hy1, hy2⟩, hT⟩ := spec_l20Draw_ok cs hc hl c hs2
    (try simp only [] at hy1 hy2 hT)
    cases bb
    · simp only [drawnT, Bool.false_eq_true, if_false] at hT
      refine CallH.ref hT [1000000000] [] rfl Try.call223 (by simp) ?_ (by simp) (fun e R' hR => ?_) (.inl rfl) ?_
      · simp -implicitDefEqProofs only [srR, Nat.reduceEqDiff, ↓reduceIte, ints, rows, intsO, rowsO]
      · simp -implicitDefEqProofs only [agR, Nat.reduceLeDiff, Nat.reduceSub, vaR, go_sem, ints, rows, rat, rats, ratsO, rtR, intsO, rowsO]
      simp -implicitDefEqProofs only [clR, Nat.reduceLeDiff, go_sem, evR, rat]
      exact ⟨⟨((⟨l2, g.w, g.v⟩, false), d), rfl, rfl, ⟨hy1, hsm.2⟩, hy2⟩, ((frameOK.refl _ _ _).upd _ (.inl (by simp))).upd _ (.inr rfl)⟩
    · simp only [drawnT, if_true, nodes] at hT
      refine CallH.ref hT [1000000000] [] rfl Try.call223 (by simp) ?_ (by simp) (fun e R' hR => ?_) (.inl rfl) ?_
      · simp -implicitDefEqProofs only [srR, Nat.reduceEqDiff, ↓reduceIte, ints, rows, intsO, rowsO]
      · simp -implicitDefEqProofs only [agR, Nat.reduceLeDiff, Nat.reduceSub, vaR, go_sem, ints, rows, rat, rats, ratsO, rtR, intsO, rowsO]
      simp -implicitDefEqProofs only [clR, Nat.reduceLeDiff, go_sem, evR, rat]
      exact ⟨⟨((⟨l2, g.w, g.v⟩, true), d), rfl, rfl, ⟨hy1, hsm.2⟩, hy2⟩, (frameOK.refl _ _ _).upd _ (.inl (by simp))⟩
  · refine ⟨_, Weak.trans (Weak.close1 3 1 9 rfl rfl (by decide) rfl) (Weak.trans (Weak.share 3 rfl) (Weak.of [(0, .own 1000000000), (2, .own 2), (3, .t (.pin [nodes g.nd, rows g.w, rows g.v] 0))] [(1000000000, .box [bytes cs, .i c.1, .i c.2]), (2, .box [.v (.slice none 0 0), .v (.slice none 0 0), .v (.slice none 0 0)])] [some 1000000000, some 2] (by simp) (by simp) ?_ ?_)), ?_⟩
    · simp -implicitDefEqProofs only [ints, rows, Nat.reduceBEq, wkR, Nat.reduceEqDiff, ↓reduceIte, wrR, shareA, T.toSh, T.toShL, toShL_chunk, toShL_intsO, nodes, List.set_cons_succ, List.set_cons_zero]
    · exact ⟨⟨_, rfl, .refl _⟩, rfl, ⟨_, rfl, .refl _⟩, rfl, trivial⟩
    simp -implicitDefEqProofs only [go_sem, evR, ints, rows, rat, rats, nodes]
    exact ⟨((g, true), c), rfl, rfl, hsm, hs2⟩
end
end Go.Ab

/- Contracts: drawn strategies. -/
set_option linter.unusedSimpArgs false
set_option linter.unusedVariables false
namespace Go.Ab
open Go.Proofs
def sizesL (g : Gm) (pl : Int) : List Int := (List.range (sets g pl).length).map fun i => (sizeAt g pl i : Int)
theorem sizesL_length (g : Gm) (pl : Int) : (sizesL g pl).length = (sets g pl).length := by simp [sizesL]
theorem sizesL_get {g : Gm} {pl : Int} {i : Nat} (h : i < (sets g pl).length) : (sizesL g pl)[i]? = some (sizeAt g pl i : Int) := by simp [sizesL, h]
theorem sizesL_take {g : Gm} {pl : Int} {i : Nat} (h : i < (sets g pl).length) : (sizesL g pl).take (i + 1) = (sizesL g pl).take i ++ [(sizeAt g pl i : Int)] := take_snoc (sizesL_get h)
section
attribute [-go_sem] load1C load1V fldC lenC idxC loadNV nilCheckW
set_option maxRecDepth 20000 in
theorem spec_l22Sizes_ok (g : Gm) (pl : Int) (hl : g.nd.length ≤ 60) (hk : g.w.length ≤ 6) : Fun Try.prog 196 [] [.t (.agg [.sh 5 (chunk nodeC g.nd), .sh 1 (g.w.map ints), .sh 1 (g.v.map ints)]), .t (.i pl)] fun o r => o = [] ∧ r = intsO (sizesL g pl) := by
  refine fun_spec_l22Sizes (by simp) ?_
  simp -implicitDefEqProofs only [go_sem, evR, ints, rows, rat, rats, c_spec_l22Sizes]
  have hsl := sets_len g pl hl hk
  have hp := l21Sets_t g pl hl hk
  simp only [rowsO] at hp
  refine CallW.res hp [] rfl Try.call186 ?_ (.inl rfl) ?_
  · simp -implicitDefEqProofs only [agR, Nat.reduceLeDiff, Nat.reduceSub, vaR, go_sem, ints, rows, rat, rats, ratsO, rtR, intsO, rowsO]
  simp -implicitDefEqProofs only [clR, Nat.reduceLeDiff, go_sem, evR, rat]
  refine SemC.loopR (σ := Nat) (fun i => St.of [(2, .own 2), (5, .t (rows (sets g pl))), (6, .own 96), (7, .t (.i i))] [(2, .box [.sh 5 (chunk nodeC g.nd), .sh 1 (g.w.map ints), .sh 1 (g.v.map ints)]), (96, intsO ((sizesL g pl).take i))]) (fun i => i ≤ (sets g pl).length) (fun i => (sets g pl).length - i) 0 (Weak.trans (Weak.share 10 rfl) (Weak.of _ _ [some 2, some 11] (by simp) (by simp) ?_ ?_)) (by simp) fun i hi R hn hr he => ?_
  · simp -implicitDefEqProofs only [ints, rows, Nat.reduceBEq, wkR, Nat.reduceEqDiff, ↓reduceIte, wrR, shareA, T.toSh, toShL_intsO]
  · exact ⟨⟨_, rfl, .refl _⟩, rfl, ⟨_, rfl, .refl _⟩, rfl, trivial⟩
  rcases Nat.lt_or_ge i (sets g pl).length with h9 | h9
  · obtain ⟨n, c, x, hs, hx, hn1, hc1, hxp, hsz⟩ := set_elem h9
    have hlt : ((sizesL g pl).take i).length = i := by rw [List.length_take, sizesL_length]; omega
    simp -implicitDefEqProofs only [go_sem, evR, ints, rows, rat, rats, intsO, decide_eq_true (show (i : Int) < ((sets g pl).length : Int) by omega), hs, nd_get4 hx, Option.map_some, Option.getD_some]
    refine ⟨by omega, by omega, by omega, by omega, by rw [nd_len]; omega, by rw [nd_len]; omega, by omega, hn _ (i + 1) (Weak.of _ _ [some 2, some 33] (by simp) (by simp) ?_ ?_) (by omega) (by omega)⟩
    · simp -implicitDefEqProofs only [ints, rows, Nat.reduceBEq, wkR, Nat.reduceEqDiff, ↓reduceIte, wrR, next64 h9 (by omega)]
    · refine ⟨⟨_, rfl, .refl _⟩, rfl, ⟨_, rfl, ?_⟩, rfl, trivial⟩
      rw [sizesL_take h9, hsz, intsO, List.map_append]; exact .refl _
  · simp -implicitDefEqProofs only [go_sem, evR, ints, rows, rat, rats, decide_eq_false (show ¬ (i : Int) < ((sets g pl).length : Int) by omega)]
    refine he _ _ ?_
    simp -implicitDefEqProofs only [go_sem, evR, ints, rows, rat, rats, intsO]
    rw [List.take_of_length_le (by rw [sizesL_length]; exact h9)]
theorem size_bound {g : Gm} (hg : isGameB g = true) {pl : Int} (hpl : pl = 0 ∨ pl = 1) {i : Nat} (h : i < (sets g pl).length) : 1 ≤ sizeAt g pl i ∧ sizeAt g pl i ≤ 4 := by
  obtain ⟨n, c, x, hs, hx, hn1, hc1, hxp, hsz⟩ := set_elem h
  obtain ⟨p1, p2, p3, p4, p5⟩ := isGameB_parts hg
  obtain ⟨t1, t2, t3, t4⟩ := isTreeB_spec p1
  obtain ⟨-, -, -, -, f1, f2⟩ := ndOK_fields (t2 _ _ hx)
  rw [hsz]
  exact ⟨(f1 (by omega)).2, f2⟩
end
end Go.Ab

/- Contracts: uniform strategies; drawn games with strategies. -/
set_option linter.unusedSimpArgs false
set_option linter.unusedVariables false
namespace Go.Ab
open Go.Proofs
theorem two_usesU {A C : Prop} (t : C) (h : C → A) : A := h t
theorem smallG_L {g : Gm} (h : smallG g) : gameL g := by
  obtain ⟨⟨h1, h2⟩, h3, h4, h5, h6⟩ := h
  exact ⟨by omega, fun x hx => by have := h2 x hx; omega, ⟨by omega, fun r hr => by have := h4 r hr; omega⟩, by omega, fun r hr => by have := h6 r hr; omega⟩
section
attribute [-go_sem] load1C load1V fldC lenC idxC loadNV nilCheckW
end
end Go.Ab

/- Games as data: pure strategies and the table of a game. -/
set_option linter.unusedSimpArgs false
set_option linter.unusedVariables false
namespace Go.Ab

def prodI : List Int → Int
  | [] => 1
  | x :: l => x * prodI l
theorem prodI_append : ∀ l l' : List Int, prodI (l ++ l') = prodI l * prodI l'
  | [], l' => by simp [prodI]
  | x :: l, l' => by rw [List.cons_append, prodI, prodI, prodI_append l l', Int.mul_assoc]
theorem prodI_snoc (l : List Int) (x : Int) : prodI (l ++ [x]) = prodI l * x := by rw [prodI_append]; simp [prodI]
theorem prodI_pos : ∀ {l : List Int}, (∀ x ∈ l, 1 ≤ x) → 1 ≤ prodI l
  | [], _ => by simp [prodI]
  | x :: l, h => by
    have h1 := h x (by simp)
    have h2 := prodI_pos (l := l) fun y hy => h y (by simp [hy])
    rw [prodI]
    have : 1 * 1 ≤ x * prodI l := Int.mul_le_mul h1 h2 (by decide) (by omega)
    omega
theorem prodI_take_le {l : List Int} (h : ∀ x ∈ l, 1 ≤ x) (i : Nat) : prodI (l.take i) ≤ prodI l := by
  have e : prodI l = prodI (l.take i) * prodI (l.drop i) := by rw [← prodI_append, List.take_append_drop]
  have h1 := prodI_pos (l := l.take i) fun x hx => h x (List.mem_of_mem_take hx)
  have h2 := prodI_pos (l := l.drop i) fun x hx => h x (List.mem_of_mem_drop hx)
  have : prodI (l.take i) * 1 ≤ prodI (l.take i) * prodI (l.drop i) := Int.mul_le_mul_of_nonneg_left h2 (by omega)
  omega
theorem prodI_take_succ {l : List Int} {i : Nat} {x : Int} (h : l[i]? = some x) : prodI (l.take (i + 1)) = prodI (l.take i) * x := by
  rw [List.take_add_one, h, Option.toList_some, prodI_snoc]
theorem sizes_ok {g : Gm} (hg : isGameB g = true) {pl : Int} (hpl : pl = 0 ∨ pl = 1) : ∀ x ∈ sizesL g pl, 1 ≤ x ∧ x ≤ 4 := by
  intro x hx
  obtain ⟨i, hi, rfl⟩ := List.mem_map.1 hx
  have := size_bound hg hpl (List.mem_range.1 hi)
  omega
def nPure (g : Gm) (pl : Int) : Int := prodI (sizesL g pl)
theorem nPure_pos {g : Gm} (hg : isGameB g = true) {pl : Int} (hpl : pl = 0 ∨ pl = 1) : 1 ≤ nPure g pl := prodI_pos fun x hx => (sizes_ok hg hpl x hx).1
def cpR (g : Gm) (pl : Int) : Int × Int := if isGameB g = true then (if 0 ≤ pl ∧ pl ≤ 1 then (if nPure g pl ≤ 1000000000 then (nPure g pl, 0) else (0, 3)) else (0, 2)) else (0, 1)
def numA (L : List Int) (num : Int) : Nat → Int
  | 0 => num
  | k + 1 => numA L num k / L.getD (L.length - 1 - k) 1
theorem numA_nonneg {L : List Int} {num : Int} (h : ∀ x ∈ L, 1 ≤ x) (h0 : 0 ≤ num) : ∀ k, k ≤ L.length → 0 ≤ numA L num k ∧ numA L num k ≤ num
  | 0, _ => by simp [numA]; exact h0
  | k + 1, hk => by
    obtain ⟨i1, i2⟩ := numA_nonneg h h0 k (by omega)
    have hm := h _ (getD_mem 1 (show L.length - 1 - k < L.length by omega))
    rw [numA]
    exact ⟨Int.ediv_nonneg i1 (by omega), Int.le_trans (Int.ediv_le_self _ i1) i2⟩
def digA (L : List Int) (num : Int) (i : Nat) : Int := numA L num (L.length - 1 - i) % L.getD i 1
theorem digA_bound {L : List Int} {num : Int} (h : ∀ x ∈ L, 1 ≤ x) {i : Nat} (hi : i < L.length) : 0 ≤ digA L num i ∧ digA L num i < L.getD i 1 := by
  have hm := h _ (getD_mem 1 hi)
  exact ⟨Int.emod_nonneg _ (by omega), Int.emod_lt_of_pos _ (by omega)⟩
theorem sizesL_getD {g : Gm} {pl : Int} {i : Nat} (h : i < (sets g pl).length) : (sizesL g pl).getD i 1 = (sizeAt g pl i : Int) := by
  rw [List.getD_eq_getElem?_getD, sizesL_get h]; rfl
def pureR (g : Gm) (pl num : Int) (i : Nat) : List Int := pureL (sizeAt g pl i) (digA (sizesL g pl) num i).toNat
def pureM (g : Gm) (pl num : Int) : List (List Int) := (List.range (sets g pl).length).map (pureR g pl num)
theorem pureM_length (g : Gm) (pl num : Int) : (pureM g pl num).length = (sets g pl).length := by simp [pureM]
theorem pureM_get {g : Gm} {pl num : Int} {i : Nat} (h : i < (sets g pl).length) : (pureM g pl num)[i]? = some (pureR g pl num i) := by simp [pureM, h]
theorem pureM_strat {g : Gm} (hg : isGameB g = true) {pl : Int} (hpl : pl = 0 ∨ pl = 1) (num : Int) : isStratB g pl (pureM g pl num) = true := by
  rw [isStratB_iff]
  refine ⟨pureM_length _ _ _, fun i hi => ?_⟩
  have hd := digA_bound (num := num) (fun x hx => (sizes_ok hg hpl x hx).1) (show i < (sizesL g pl).length by rw [sizesL_length]; exact hi)
  rw [sizesL_getD hi] at hd
  obtain ⟨q1, q2⟩ := pureL_parts (n := sizeAt g pl i) (j := (digA (sizesL g pl) num i).toNat) (by omega)
  rw [List.getD_eq_getElem?_getD, pureM_get hi, Option.getD_some, partOK_iff]
  exact ⟨pureL_length _ _, List.all_eq_true.2 fun x hx => by simpa using q1 x hx, by rw [← sumI_eq]; exact q2⟩
theorem pureM_parts {g : Gm} (hg : isGameB g = true) {pl : Int} (hpl : pl = 0 ∨ pl = 1) (num : Int) : partsOK g (pureM g pl num) pl := partsOK_of (pureM_strat hg hpl num)
def tabE (g : Gm) (i k : Nat) : Int := (gnum g (pureM g 0 i) (pureM g 1 k)).tdiv (pw (dpt g))
def tabRow (g : Gm) (n : Nat) (i : Nat) : List Int := (List.range n).map (tabE g i)
def tabM (g : Gm) : List (List Int) := (List.range (nPure g 0).toNat).map (tabRow g (nPure g 1).toNat)
def tabR (g : Gm) : List (List Int) × Int := if isGameB g = true then (if nPure g 0 ≤ 16 ∧ nPure g 1 ≤ 16 then (tabM g, 0) else ([], 3)) else ([], 1)
theorem tabE_abs {g : Gm} (hg : isGameB g = true) (i k : Nat) : -25200000000000 ≤ tabE g i k ∧ tabE g i k ≤ 25200000000000 := by
  have h := gnum_abs hg (pureM_parts hg (.inl rfl) i) (pureM_parts hg (.inr rfl) k)
  have hp := pw_pos (dpt g)
  unfold tabE
  generalize gnum g (pureM g 0 i) (pureM g 1 k) = x at h
  generalize pw (dpt g) = y at hp
  have h1 : (x.tdiv y).natAbs ≤ x.natAbs := by rw [Int.natAbs_tdiv]; exact Nat.div_le_self _ _
  omega
theorem tabM_shape {g : Gm} (hg : isGameB g = true) (h : nPure g 0 ≤ 16 ∧ nPure g 1 ≤ 16) : 1 ≤ (tabM g).length ∧ (tabM g).length ≤ 16 ∧ rect (tabM g) (nPure g 1).toNat ∧ 1 ≤ (nPure g 1).toNat ∧ (nPure g 1).toNat ≤ 16 ∧ ∀ r ∈ tabM g, ∀ x ∈ r, -25200000000000 ≤ x ∧ x ≤ 25200000000000 := by
  have h0 := nPure_pos hg (.inl rfl)
  have h1 := nPure_pos hg (.inr rfl)
  refine ⟨by simp [tabM]; omega, by simp [tabM]; omega, fun r hr => ?_, by omega, by omega, fun r hr x hx => ?_⟩
  · obtain ⟨i, _, rfl⟩ := List.mem_map.1 hr
    simp [tabRow]
  · obtain ⟨i, _, rfl⟩ := List.mem_map.1 hr
    obtain ⟨k, _, rfl⟩ := List.mem_map.1 hx
    exact tabE_abs hg i k
theorem tot_leX {k : Nat} : ∀ {m : List (List Int)}, (∀ r ∈ m, r.length ≤ k) → tot m ≤ m.length * k
  | [], _ => by simp [tot]
  | r :: m, h => by
    have h1 := tot_leX (m := m) fun r hr => h r (by simp [hr])
    have h2 := h r (by simp)
    rw [tot, List.length_cons, Nat.add_mul, Nat.one_mul]; omega
theorem tabR_rowsS (g : Gm) : rowsS (tabR g).1 := by
  have hz : rowsS [] := ⟨by simp, by simp [tot]⟩
  unfold tabR
  split
  · rename_i hg
    split
    · rename_i h
      obtain ⟨a1, a2, a3, a4, a5, _⟩ := tabM_shape hg h
      have h1 := tot_leX (m := tabM g) (k := 16) fun r hr => by rw [a3 r hr]; exact a5
      exact ⟨by show (tabM g).length ≤ _; omega, by show tot (tabM g) ≤ _; omega⟩
    · exact hz
  · exact hz
def lowT (m : List (List Int)) : Int := maxL (m.map minL)
def highT (m : List (List Int)) (c : Nat) : Int := minL ((tr m c).map maxL)
end Go.Ab

/- Contracts: numbers of pure strategies. -/
set_option linter.unusedSimpArgs false
set_option linter.unusedVariables false
namespace Go.Ab
open Go.Proofs
theorem prodI_big {g : Gm} (hg : isGameB g = true) {pl : Int} (hpl : pl = 0 ∨ pl = 1) {i : Nat} (h : prodI ((sizesL g pl).take i) > 1000000000) : cpR g pl = (0, 3) := by
  have := prodI_take_le (fun x hx => (sizes_ok hg hpl x hx).1) i
  rw [cpR, if_pos hg, if_pos (by omega), if_neg (by unfold nPure; omega)]
theorem cpR_small {g : Gm} (hg : isGameB g = true) {pl : Int} (hpl : pl = 0 ∨ pl = 1) (h : nPure g pl ≤ 1000000000) : cpR g pl = (nPure g pl, 0) := by rw [cpR, if_pos hg, if_pos (by omega), if_pos h]
theorem prodI_take_pos {g : Gm} (hg : isGameB g = true) {pl : Int} (hpl : pl = 0 ∨ pl = 1) (i : Nat) : 1 ≤ prodI ((sizesL g pl).take i) := prodI_pos fun x hx => (sizes_ok hg hpl x (List.mem_of_mem_take hx)).1
section
attribute [-go_sem] load1C load1V fldC lenC idxC loadNV nilCheckW
theorem spec_l22Code_ok (g : Gm) (hgl : gameL g) (hg : isGameB g = true) (pl : Int) (hpl : pl = 0 ∨ pl = 1) : Pure Try.prog 202 [gameT g, .i pl] (.i 0) := by
  refine fun_spec_l22Code (by simp) ?_
  simp -implicitDefEqProofs only [go_sem, evR, ints, rows, rat, rats, c_spec_l22Code, gameT, nodes]
  have hq := isGame_t (spec_IsGame_ok g hgl)
  rw [hg] at hq
  refine CallW.pure hq [] rfl Try.call139 ?_ (by first | trivial | simp [T.noSh, T.noShL, rat]) rfl ?_
  · simp -implicitDefEqProofs only [agR, Nat.reduceLeDiff, Nat.reduceSub, vaR, go_sem, ints, rows, rat, rats, ratsO, rtR, intsO, rowsO]
  simp -implicitDefEqProofs only [go_sem, evR, ints, rows, rat, rats]
  have hq := spec_l01In_ok pl 0 1
  rw [decide_eq_true (show 0 ≤ pl ∧ pl ≤ 1 by omega)] at hq
  refine CallW.pure hq [] rfl Try.call148 ?_ (by first | trivial | simp [T.noSh, T.noShL, rat]) rfl ?_
  · simp -implicitDefEqProofs only [agR, Nat.reduceLeDiff, Nat.reduceSub, vaR, go_sem, ints, rows, rat, rats, ratsO, rtR, intsO, rowsO]
  simp -implicitDefEqProofs only [go_sem, evR, ints, rows, rat, rats]
set_option maxRecDepth 20000 in
theorem spec_CountPure_ok (g : Gm) (hgl : gameL g) (hg : isGameB g = true) (pl : Int) (hpl : pl = 0 ∨ pl = 1) : Pure Try.prog 156 [.agg [.sh 5 (chunk nodeC g.nd), .sh 1 (g.w.map ints), .sh 1 (g.v.map ints)], .i pl] (.tup [.i (cpR g pl).1, .i (cpR g pl).2]) := by
  obtain ⟨p1, p2, p3, p4, p5⟩ := isGameB_parts hg
  obtain ⟨t1, t2, t3, t4⟩ := isTreeB_spec p1
  have hsl := sets_len g pl t1.2 p2.2
  have hps := prodI_take_pos hg hpl
  refine fun_spec_CountPure (by simp) ?_
  simp -implicitDefEqProofs only [go_sem, evR, ints, rows, rat, rats, c_spec_CountPure, opR, Nat.reduceBEq]
  have hq := spec_l22Code_ok g hgl hg pl hpl
  simp only [gameT, nodes, rows] at hq
  refine CallW.pure hq [] rfl Try.call202 ?_ (by first | trivial | simp [T.noSh, T.noShL, rat]) rfl ?_
  · simp -implicitDefEqProofs only [agR, Nat.reduceLeDiff, Nat.reduceSub, vaR, go_sem, ints, rows, rat, rats, ratsO, rtR, intsO, rowsO]
  simp -implicitDefEqProofs only [go_sem, evR, ints, rows, rat, rats, bne_self_eq_false]
  have hp := spec_l22Sizes_ok g pl t1.2 p2.2
  simp only [intsO] at hp
  refine CallW.res hp [] rfl Try.call196 ?_ (.inl rfl) ?_
  · simp -implicitDefEqProofs only [agR, Nat.reduceLeDiff, Nat.reduceSub, vaR, go_sem, ints, rows, rat, rats, ratsO, rtR, intsO, rowsO]
  simp -implicitDefEqProofs only [clR, Nat.reduceLeDiff, go_sem, evR, rat]
  refine SemC.loopR (σ := Nat) (fun i => St.of [(7, .t (ints (sizesL g pl))), (8, .t (.i (prodI ((sizesL g pl).take i)))), (9, .t (.i i))] []) (fun i => i ≤ (sets g pl).length ∧ prodI ((sizesL g pl).take i) ≤ 1000000000) (fun i => (sets g pl).length - i) 0 (Weak.trans (Weak.share 18 rfl) (Weak.of _ _ [] (by simp) (by simp) ?_ ?_)) ⟨by omega, by rw [List.take_zero]; decide⟩ fun i hi R hn hr he => ?_
  · simp -implicitDefEqProofs only [ints, rows, Nat.reduceBEq, wkR, Nat.reduceEqDiff, ↓reduceIte, wrR, shareA, T.toSh, toShL_ints, List.take_zero, prodI]
  · exact trivial
  obtain ⟨hi, hb⟩ := hi
  have hp0 := hps i
  have hp1 := hps (i + 1)
  rcases Nat.lt_or_ge i (sets g pl).length with h9 | h9
  · obtain ⟨b1, b2⟩ := size_bound hg hpl h9
    have hsu := prodI_take_succ (sizesL_get h9)
    have hmb : prodI ((sizesL g pl).take i) * (sizeAt g pl i : Int) ≤ 4000000000 := by
      have := Int.mul_le_mul hb (show (sizeAt g pl i : Int) ≤ 4 by omega) (by omega) (by omega); omega
    have hbig := @prodI_big g hg pl hpl (i + 1)
    simp -implicitDefEqProofs only [go_sem, evR, ints, rows, rat, rats, sizesL_length, sizesL_get h9, decide_eq_true (show (i : Int) < ((sets g pl).length : Int) by omega), List.length_map, List.getElem?_map, Option.map_some, Option.getD_some, ← hsu, wrap64 (n := prodI ((sizesL g pl).take (i + 1))) (by omega) (by omega)]
    refine ⟨by omega, by omega, h9, fun h => hr _ ?_, fun h => hn _ (i + 1) (Weak.of _ _ [] (by simp) (by simp) ?_ ?_) ⟨by omega, by omega⟩ (by omega)⟩
    · simp -implicitDefEqProofs only [go_sem, evR, ints, rows, rat, rats]
      rw [hbig h]
    · simp -implicitDefEqProofs only [ints, rows, Nat.reduceBEq, wkR, Nat.reduceEqDiff, ↓reduceIte, wrR, next64 h9 (by omega)]
    · exact trivial
  · have hil : i = (sets g pl).length := by omega
    have hta : (sizesL g pl).take i = sizesL g pl := List.take_of_length_le (by rw [sizesL_length]; omega)
    rw [hta] at hb hp0 ⊢
    simp -implicitDefEqProofs only [go_sem, evR, ints, rows, rat, rats, sizesL_length, decide_eq_false (show ¬ (i : Int) < ((sets g pl).length : Int) by omega), List.length_map]
    refine he _ _ ?_
    simp -implicitDefEqProofs only [go_sem, evR, ints, rows, rat, rats]
    rw [cpR_small hg hpl hb]
    rfl
set_option maxRecDepth 20000 in
theorem impl_CountPure_ok (g : Gm) (hgl : gameL g) (hg : isGameB g = true) (pl : Int) (hpl : pl = 0 ∨ pl = 1) : Pure Try.prog 205 [.agg [.sh 5 (chunk nodeC g.nd), .sh 1 (g.w.map ints), .sh 1 (g.v.map ints)], .i pl] (.tup [.i (cpR g pl).1, .i (cpR g pl).2]) := by
  obtain ⟨p1, p2, p3, p4, p5⟩ := isGameB_parts hg
  obtain ⟨t1, t2, t3, t4⟩ := isTreeB_spec p1
  have hsl := sets_len g pl t1.2 p2.2
  have hps := prodI_take_pos hg hpl
  refine fun_impl_CountPure (by simp) ?_
  simp -implicitDefEqProofs only [go_sem, evR, ints, rows, rat, rats, c_impl_CountPure, opR, Nat.reduceBEq]
  have hq := isGame_t (impl_IsGame_ok g hgl)
  rw [hg] at hq
  refine CallW.pure hq [] rfl Try.call115 ?_ (by first | trivial | simp [T.noSh, T.noShL, rat]) rfl ?_
  · simp -implicitDefEqProofs only [agR, Nat.reduceLeDiff, Nat.reduceSub, vaR, go_sem, ints, rows, rat, rats, ratsO, rtR, intsO, rowsO]
  simp -implicitDefEqProofs only [go_sem, evR, ints, rows, rat, rats]
  have hq := impl_within_ok pl 0 1
  rw [decide_eq_true (show 0 ≤ pl ∧ pl ≤ 1 by omega)] at hq
  refine CallW.pure hq [] rfl Try.call110 ?_ (by first | trivial | simp [T.noSh, T.noShL, rat]) rfl ?_
  · simp -implicitDefEqProofs only [agR, Nat.reduceLeDiff, Nat.reduceSub, vaR, go_sem, ints, rows, rat, rats, ratsO, rtR, intsO, rowsO]
  simp -implicitDefEqProofs only [go_sem, evR, ints, rows, rat, rats, opR, Nat.reduceBEq]
  have hp := infoSets_t g pl t1.2 p2.2
  simp only [rowsO] at hp
  refine CallW.res hp [] rfl Try.call152 ?_ (.inl rfl) ?_
  · simp -implicitDefEqProofs only [agR, Nat.reduceLeDiff, Nat.reduceSub, vaR, go_sem, ints, rows, rat, rats, ratsO, rtR, intsO, rowsO]
  simp -implicitDefEqProofs only [clR, Nat.reduceLeDiff, go_sem, evR, rat]
  refine SemC.loopR (σ := Nat) (fun i => St.of [(2, .own 2), (6, .t (.i (prodI ((sizesL g pl).take i)))), (17, .t (rows (sets g pl))), (18, .t (.i (sets g pl).length)), (19, .t (.i i))] [(2, .box [nodes g.nd, rows g.w, rows g.v])]) (fun i => i ≤ (sets g pl).length ∧ prodI ((sizesL g pl).take i) ≤ 1000000000) (fun i => (sets g pl).length - i) 0 (Weak.trans (Weak.share 17 rfl) (Weak.of _ _ [some 2] (by simp) (by simp) ?_ ?_)) ⟨by omega, by rw [List.take_zero]; decide⟩ fun i hi R hn hr he => ?_
  · simp -implicitDefEqProofs only [ints, rows, Nat.reduceBEq, wkR, Nat.reduceEqDiff, ↓reduceIte, wrR, shareA, T.toSh, toShL_intsO, nodes, List.take_zero, prodI]
  · exact ⟨⟨_, rfl, .refl _⟩, rfl, trivial⟩
  obtain ⟨hi, hb⟩ := hi
  have hp0 := hps i
  have hp1 := hps (i + 1)
  rcases Nat.lt_or_ge i (sets g pl).length with h9 | h9
  · obtain ⟨b1, b2⟩ := size_bound hg hpl h9
    obtain ⟨a1, a2, a3, a4, a5, a6⟩ := set_parts h9
    obtain ⟨x, hx⟩ : ∃ x, g.nd[setN g pl i]? = some x := ⟨_, List.getElem?_eq_getElem a2⟩
    have hxd : g.nd.getD (setN g pl i) nd0 = x := by rw [List.getD_eq_getElem?_getD, hx]; rfl
    rw [hxd] at a5
    have hsu := prodI_take_succ (sizesL_get h9)
    have hmb : prodI ((sizesL g pl).take i) * (sizeAt g pl i : Int) ≤ 4000000000 := by
      have := Int.mul_le_mul hb (show (sizeAt g pl i : Int) ≤ 4 by omega) (by omega) (by omega); omega
    have hbig := @prodI_big g hg pl hpl (i + 1)
    simp -implicitDefEqProofs only [go_sem, evR, ints, rows, rat, rats, nodes, a1, decide_eq_true (show (i : Int) < ((sets g pl).length : Int) by omega), nd_get4 hx, ← a5, List.getElem?_cons_zero, List.getElem?_cons_succ, ← hsu, wrap64 (n := prodI ((sizesL g pl).take (i + 1))) (by omega) (by omega)]
    repeat (first | refine ⟨by omega, ?_⟩ | refine ⟨by rw [nd_len]; omega, ?_⟩)
    refine ⟨fun h => hr _ ?_, fun h => hn _ (i + 1) (Weak.of _ _ [some 2] (by simp) (by simp) ?_ ?_) ⟨by omega, by omega⟩ (by omega)⟩
    · simp -implicitDefEqProofs only [go_sem, evR, ints, rows, rat, rats]
      rw [hbig h]
    · simp -implicitDefEqProofs only [ints, rows, Nat.reduceBEq, wkR, Nat.reduceEqDiff, ↓reduceIte, wrR, nodes, next64 h9 (by omega)]
    · exact ⟨⟨_, rfl, .refl _⟩, rfl, trivial⟩
  · have hil : i = (sets g pl).length := by omega
    have hta : (sizesL g pl).take i = sizesL g pl := List.take_of_length_le (by rw [sizesL_length]; omega)
    rw [hta] at hb hp0 ⊢
    simp -implicitDefEqProofs only [go_sem, evR, ints, rows, rat, rats, nodes, decide_eq_false (show ¬ (i : Int) < ((sets g pl).length : Int) by omega)]
    refine he _ _ ?_
    simp -implicitDefEqProofs only [go_sem, evR, ints, rows, rat, rats]
    rw [cpR_small hg hpl hb]
    rfl
end
end Go.Ab

/- Functions in compact form, with hints. -/
set_option linter.unusedVariables false
namespace Go.Ab
open Go.Proofs

def c_impl_PureStrategy_h : CC :=
 (.seq (.reg [.o (.box 3 (sl 0)),
 .o (.alloc 6 [.v (.int .i64 0), .v (.slice none 0 0)]),
 .o (.move 7 (ci 0))])
 ((.seq (.reg [.o (.loadN 15 3 (sl 3)),
 .o (.move 16 (sl 1)),
 .o (.call (some 17) (cf 205) [(sl 15), (sl 16)]),
 .o (.move 14 (sl 17)),
 .o (.extract 18 (sl 14) 0),
 .o (.extract 19 (sl 14) 1),
 .o (.move 8 (sl 18)),
 .o (.move 9 (sl 19))])
 ((.seq (.seq (.reg [.o (.move 20 (sl 9)),
 .o (.bin 21 .neq (sl 20) (ci 0))])
 ((.cond (sl 21) (.seq (.reg [.o (.build 22 [.v (.int .i64 0), .v (.slice none 0 0)] [(0, 1), (1, 1)] []),
 .o (.move 23 (sl 9)),
 .o (.store 2 (sl 6) (sl 22)),
 .o (.move 7 (sl 23))])
 (.ret))
 .skip)))
 ((.seq (.seq (.reg [.o (.move 24 (sl 2)),
 .o (.move 25 (sl 8)),
 .o (.bin 26 .sub (sl 25) (ci 1)),
 .o (.call (some 27) (cf 110) [(sl 24), (ci 0), (sl 26)]),
 .o (.un 28 .not (sl 27))])
 ((.cond (sl 28) (.seq (.reg [.o (.build 29 [.v (.int .i64 0), .v (.slice none 0 0)] [(0, 1), (1, 1)] []),
 .o (.store 2 (sl 6) (sl 29)),
 .o (.move 7 (ci 2))])
 (.ret))
 .skip)))
 ((.seq (.reg [.o (.loadN 30 3 (sl 3)),
 .o (.move 31 (sl 1)),
 .o (.call (some 32) (cf 152) [(sl 30), (sl 31)]),
 .o (.move 10 (sl 32))])
 ((.seq (.reg [.o (.move 33 (sl 1)),
 .o (.move 34 (sl 10)),
 .o (.lenS 35 (sl 34)),
 .o (.make 36 [.v (.slice none 0 0)] 24 (sl 35) (sl 35)),
 .o (.build 37 [.v (.int .i64 0), .v (.slice none 0 0)] [(0, 1), (1, 1)] [(0, (sl 33)), (1, (sl 36))]),
 .o (.alloc 11 [.v (.int .i64 0), .v (.slice none 0 0)]),
 .o (.store 2 (sl 11) (sl 37))])
 ((.seq (.seq (.reg [.o (.move 38 (sl 10)),
 .o (.lenS 39 (sl 38)),
 .o (.bin 40 .sub (sl 39) (ci 1)),
 .o (.move 12 (sl 40))])
 ((.block 0 (.loop (.seq (.seq (.reg [.o (.move 41 (sl 12)),
 .o (.bin 42 .geq (sl 41) (ci 0))])
 ((.cond (sl 42) .skip
 (.exit 0))))
 ((.seq (.block 1 (.seq (.draw [] [(kR, .o (.fld 45 0 (sl 3))),
 (kR, .o (.fld 46 0 (sl 45))),
 (kR, .o (.load1 47 (sl 46))),
 (kR, .o (.move 48 (sl 10))),
 (kR, .o (.move 49 (sl 12))),
 (kR, .o (.idx 50 1 (sl 48) (sl 49))),
 (kR, .o (.load1 51 (sl 50))),
 (kR, .o (.idx 52 1 (sl 51) (ci 0))),
 (kR, .o (.load1 53 (sl 52))),
 (kR, .o (.idx 54 5 (sl 47) (sl 53))),
 (kR, .o (.fld 55 4 (sl 54))),
 (kR, .o (.load1 56 (sl 55))),
 (kR, .o (.lenS 57 (sl 56))),
 (kR, .o (.move 13 (sl 57)))])
 ((.seq (.weak (.draw [62] [(kR, .o (.fld 58 1 (sl 11))),
 (kR, .o (.load1 59 (sl 58))),
 (kR, .o (.move 60 (sl 12))),
 (kR, .o (.move 61 (sl 13))),
 (kN, .o (.make 62 [.v (.int .i64 0)] 8 (sl 61) (sl 61))),
 (kR, .o (.idx 63 1 (sl 59) (sl 60))),
 (kH, .o (.store 1 (sl 63) (sl 62)))]))
 ((.seq (.weak (.draw [] [(kR, .o (.fld 64 1 (sl 11))),
 (kR, .o (.load1 65 (sl 64))),
 (kR, .o (.move 66 (sl 12))),
 (kR, .o (.idx 67 1 (sl 65) (sl 66))),
 (kR, .o (.load1 68 (sl 67))),
 (kR, .o (.move 69 (sl 2))),
 (kR, .o (.move 70 (sl 13))),
 (kR, .o (.bin 71 .rem (sl 69) (sl 70))),
 (kR, .o (.idx 72 1 (sl 68) (sl 71))),
 (kH, .o (.store 1 (sl 72) (ci 60)))]))
 ((.reg [.o (.move 73 (sl 2)),
 .o (.move 74 (sl 13)),
 .o (.bin 75 .quo (sl 73) (sl 74)),
 .o (.move 2 (sl 75))]))))))))
 ((.reg [.o (.move 43 (sl 12)),
 .o (.bin 44 .sub (sl 43) (ci 1)),
 .o (.move 12 (sl 44))])))))))))
 ((.seq (.reg [.o (.loadN 76 2 (sl 11)),
 .o (.store 2 (sl 6) (sl 76)),
 .o (.move 7 (ci 0))])
 (.ret))))))))))))))))
theorem fun_impl_PureStrategy_h {rin : List T} {args : List A} {Q : List T → T → Prop} (ha : args.length ≤ 77) (h : cW Try.prog 77 c_impl_PureStrategy_h (retP Try.prog [.cell 6 47, .tmp 7] rin.length Q) (St.of (enum 0 args) (enum 1000000000 rin))) :
    Fun Try.prog 206 rin args Q :=
  Fun.of (H := ⟨[], [12, 13]⟩) Try.func206 rfl rfl rfl (by kernel_rfl) ha (by decide) h

end Go.Ab

/- Contracts: pure strategies by number. -/
set_option linter.unusedSimpArgs false
set_option linter.unusedVariables false
namespace Go.Ab
open Go.Proofs
def fromE {α : Type} (n k : Nat) (z : α) (F : Nat → α) : List α := (List.range n).map fun j => if n ≤ j + k then F j else z
theorem fromE_length {α : Type} (n k : Nat) (z : α) (F : Nat → α) : (fromE n k z F).length = n := by simp [fromE]
theorem fromE_get {α : Type} {n k j : Nat} {z : α} {F : Nat → α} (h : j < n) : (fromE n k z F)[j]? = some (if n ≤ j + k then F j else z) := by simp [fromE, h]
theorem fromE_zero {α : Type} (n : Nat) (z : α) (F : Nat → α) : fromE n 0 z F = List.replicate n z := by
  refine List.ext_getElem? fun j => ?_
  rcases Nat.lt_or_ge j n with h | h
  · rw [fromE_get h, if_neg (by omega), List.getElem?_replicate, if_pos h]
  · rw [List.getElem?_eq_none (by rw [fromE_length]; exact h), List.getElem?_eq_none (by rw [List.length_replicate]; exact h)]
theorem fromE_all {α : Type} (n : Nat) (z : α) (F : Nat → α) : fromE n n z F = (List.range n).map F := by
  refine List.map_congr_left fun j _ => ?_
  rw [if_pos (by omega)]
theorem fromE_set {α : Type} {n k j : Nat} {z : α} {F : Nat → α} (h : j + k + 1 = n) : (fromE n k z F).set j (F j) = fromE n (k + 1) z F := by
  refine List.ext_getElem? fun i => ?_
  rcases Nat.lt_or_ge i n with h1 | h1
  · rw [List.getElem?_set, fromE_length, fromE_get (k := k + 1) h1, fromE_get (k := k) h1]
    by_cases e : j = i
    · subst e; rw [if_pos rfl, if_pos h1, if_pos (by omega)]
    · rw [if_neg e]
      by_cases e2 : n ≤ i + k
      · rw [if_pos e2, if_pos (by omega)]
      · rw [if_neg e2, if_neg (by omega)]
  · rw [List.getElem?_eq_none (by rw [List.length_set, fromE_length]; exact h1), List.getElem?_eq_none (by rw [fromE_length]; exact h1)]
def digF (g : Gm) (pl num : Int) (k : Nat) : List Int := fromE (sets g pl).length k 0 (digA (sizesL g pl) num)
def rowF (g : Gm) (pl num : Int) (k : Nat) : List T := fromE (sets g pl).length k (.v (.slice none 0 0)) fun j => intsO (pureR g pl num j)
theorem numA_step {g : Gm} {pl num : Int} {k j : Nat} (h : j + k + 1 = (sets g pl).length) : numA (sizesL g pl) num (k + 1) = numA (sizesL g pl) num k / (sizeAt g pl j : Int) ∧ digA (sizesL g pl) num j = numA (sizesL g pl) num k % (sizeAt g pl j : Int) := by
  have hl := sizesL_length g pl
  have e1 : (sizesL g pl).length - 1 - k = j := by omega
  have e2 : (sizesL g pl).length - 1 - j = k := by omega
  rw [numA, digA, e1, e2, sizesL_getD (show j < (sets g pl).length by omega)]
  exact ⟨rfl, rfl⟩
theorem pureM_take {g : Gm} {pl num : Int} {i : Nat} (h : i < (sets g pl).length) : (pureM g pl num).take (i + 1) = (pureM g pl num).take i ++ [pureR g pl num i] := take_snoc (pureM_get h)
theorem digA_nat {g : Gm} (hg : isGameB g = true) {pl : Int} (hpl : pl = 0 ∨ pl = 1) (num : Int) {i : Nat} (h : i < (sets g pl).length) : ∃ d : Nat, digA (sizesL g pl) num i = d ∧ d < sizeAt g pl i := by
  obtain ⟨d1, d2⟩ := digA_bound (num := num) (fun x hx => (sizes_ok hg hpl x hx).1) (show i < (sizesL g pl).length by rw [sizesL_length]; exact h)
  rw [sizesL_getD h] at d2
  exact ⟨_, (Int.toNat_of_nonneg d1).symm, by omega⟩
section
attribute [-go_sem] load1C load1V fldC lenC idxC loadNV nilCheckW
set_option maxRecDepth 20000 in
theorem spec_l22Pure_ok (g : Gm) (hg : isGameB g = true) (pl : Int) (hpl : pl = 0 ∨ pl = 1) (num : Int) : Fun Try.prog 203 [] [.t (.i pl), .t (ints (sizesL g pl)), .t (ints ((List.range (sets g pl).length).map (digA (sizesL g pl) num)))] fun o r => o = [] ∧ r = .agg [.i pl, .arr 1 ((pureM g pl num).map intsO)] := by
  obtain ⟨p1, p2, p3, p4, p5⟩ := isGameB_parts hg
  obtain ⟨t1, t2, t3, t4⟩ := isTreeB_spec p1
  have hsl := sets_len g pl t1.2 p2.2
  have hdg : ∀ i, i < (sets g pl).length → ((List.range (sets g pl).length).map (digA (sizesL g pl) num))[i]? = some (digA (sizesL g pl) num i) := fun i h => by simp [h]
  have hdl : ((List.range (sets g pl).length).map (digA (sizesL g pl) num)).length = (sets g pl).length := by simp
  generalize (List.range (sets g pl).length).map (digA (sizesL g pl) num) = D at hdg hdl ⊢
  refine fun_spec_l22Pure (by simp) ?_
  simp -implicitDefEqProofs only [go_sem, evR, ints, rows, rat, rats, c_spec_l22Pure]
  refine SemC.loopR (σ := Nat) (fun i => St.of [(0, .t (.i pl)), (1, .t (ints (sizesL g pl))), (2, .t (ints D)), (6, .own 6), (7, .own 96), (8, .t (.i i))] [(6, .box [.i 0, .v (.slice none 0 0)]), (96, rowsO ((pureM g pl num).take i))]) (fun i => i ≤ (sets g pl).length) (fun i => (sets g pl).length - i) 0 (Weak.of _ _ [some 6, some 10] (by simp) (by simp) ?_ ?_) (by simp) fun i hi R hn hr he => ?_
  · simp -implicitDefEqProofs only [ints, rows, Nat.reduceBEq, wkR, Nat.reduceEqDiff, ↓reduceIte, wrR]
  · exact ⟨⟨_, rfl, .refl _⟩, rfl, ⟨_, rfl, .refl _⟩, rfl, trivial⟩
  rcases Nat.lt_or_ge i (sets g pl).length with h9 | h9
  · obtain ⟨b1, b2⟩ := size_bound hg hpl h9
    obtain ⟨d, hd1, hd2⟩ := digA_nat hg hpl num h9
    have hD := hdg i h9
    rw [hd1] at hD
    have hlt : ((pureM g pl num).take i).length = i := by rw [List.length_take, pureM_length]; omega
    simp -implicitDefEqProofs only [go_sem, evR, ints, rows, rat, rats, rowsO, sizesL_length, sizesL_get h9, hD, hdl, hlt, made_one, List.length_map, List.getElem?_map, Option.map_some, Option.getD_some, List.length_replicate, decide_eq_true (show (i : Int) < ((sets g pl).length : Int) by omega)]
    repeat (first | refine ⟨by omega, ?_⟩ | refine ⟨by rw [nd_len]; omega, ?_⟩)
    refine hn _ (i + 1) (Weak.of _ _ [some 6, some 31] (by simp) (by simp) ?_ ?_) (by omega) (by omega)
    · simp -implicitDefEqProofs only [ints, rows, Nat.reduceBEq, wkR, Nat.reduceEqDiff, ↓reduceIte, wrR, next64 h9 (by omega)]
    · refine ⟨⟨_, rfl, .refl _⟩, rfl, ⟨_, rfl, ?_⟩, rfl, trivial⟩
      rw [pureM_take h9, rowsO, List.map_append, List.map_cons, List.map_nil, pureR, pureL, hd1, Int.toNat_natCast, intsO, List.map_set, List.map_replicate]; exact .refl _
  · simp -implicitDefEqProofs only [go_sem, evR, ints, rows, rat, rats, rowsO, sizesL_length, List.length_map, decide_eq_false (show ¬ (i : Int) < ((sets g pl).length : Int) by omega), opR, Nat.reduceBEq]
    refine he _ _ ?_
    simp -implicitDefEqProofs only [go_sem, evR, ints, rows, rat, rats, rowsO, opR, Nat.reduceBEq]
    rw [List.take_of_length_le (by rw [pureM_length]; exact h9)]
set_option maxRecDepth 20000 in
theorem spec_PureStrategy_ok (g : Gm) (hgl : gameL g) (hg : isGameB g = true) (pl : Int) (hpl : pl = 0 ∨ pl = 1) (num : Int) (h0 : 0 ≤ num) (h1 : num < nPure g pl) (hb : nPure g pl ≤ 1000000000) : Fun Try.prog 159 [] [.t (.agg [.sh 5 (chunk nodeC g.nd), .sh 1 (g.w.map ints), .sh 1 (g.v.map ints)]), .t (.i pl), .t (.i num)] fun o r => o = [] ∧ r = .tup [.agg [.i pl, .arr 1 ((pureM g pl num).map intsO)], .i 0] := by
  obtain ⟨p1, p2, p3, p4, p5⟩ := isGameB_parts hg
  obtain ⟨t1, t2, t3, t4⟩ := isTreeB_spec p1
  have hsl := sets_len g pl t1.2 p2.2
  have hll := sizesL_length g pl
  refine fun_spec_PureStrategy (by simp) ?_
  simp -implicitDefEqProofs only [go_sem, evR, ints, rows, rat, rats, c_spec_PureStrategy, opR, Nat.reduceBEq]
  have hq := spec_CountPure_ok g hgl hg pl hpl
  rw [cpR_small hg hpl hb] at hq
  refine CallW.pure hq [] rfl Try.call156 ?_ (by first | trivial | simp [T.noSh, T.noShL, rat]) rfl ?_
  · simp -implicitDefEqProofs only [agR, Nat.reduceLeDiff, Nat.reduceSub, vaR, go_sem, ints, rows, rat, rats, ratsO, rtR, intsO, rowsO]
  simp -implicitDefEqProofs only [go_sem, evR, ints, rows, rat, rats, beq_self_eq_true, wrap64 (n := nPure g pl - 1) (by omega) (by omega)]
  have hq := spec_l01In_ok num 0 (nPure g pl - 1)
  rw [decide_eq_true (show 0 ≤ num ∧ num ≤ nPure g pl - 1 by omega)] at hq
  refine CallW.pure hq [] rfl Try.call148 ?_ (by first | trivial | simp [T.noSh, T.noShL, rat]) rfl ?_
  · simp -implicitDefEqProofs only [agR, Nat.reduceLeDiff, Nat.reduceSub, vaR, go_sem, ints, rows, rat, rats, ratsO, rtR, intsO, rowsO]
  simp -implicitDefEqProofs only [go_sem, evR, ints, rows, rat, rats, bne_self_eq_false, opR, Nat.reduceBEq]
  have hp := spec_l22Sizes_ok g pl t1.2 p2.2
  simp only [intsO] at hp
  refine CallW.res hp [] rfl Try.call196 ?_ (.inl rfl) ?_
  · simp -implicitDefEqProofs only [agR, Nat.reduceLeDiff, Nat.reduceSub, vaR, go_sem, ints, rows, rat, rats, ratsO, rtR, intsO, rowsO]
  simp -implicitDefEqProofs only [clR, Nat.reduceLeDiff, go_sem, evR, rat, List.length_map, hll, made_one]
  have hwl : IntKind.i64.wrap (((sets g pl).length : Int) - 1) = ((sets g pl).length : Int) - 1 := wrap64 (by omega) (by omega)
  refine ⟨by omega, by omega, ?_⟩
  refine SemC.loopR (σ := Nat) (fun k => St.of [(1, .t (.i pl)), (2, .t (.i (numA (sizesL g pl) num k))), (6, .own 6), (10, .t (ints (sizesL g pl))), (11, .own 97), (12, .t (.i (((sets g pl).length : Int) - 1 - k)))] [(6, .box [.i 0, .v (.slice none 0 0)]), (97, intsO (digF g pl num k))]) (fun k => k ≤ (sets g pl).length) (fun k => (sets g pl).length - k) 0 (Weak.trans (Weak.share 34 rfl) (Weak.of _ _ [some 6, some 37] (by simp) (by simp) ?_ ?_)) (by omega) fun k hk R hn hr he => ?_
  · simp -implicitDefEqProofs only [ints, rows, Nat.reduceBEq, wkR, Nat.reduceEqDiff, ↓reduceIte, wrR, shareA, T.toSh, toShL_ints, hwl, numA, Int.natCast_zero, Int.cast_ofNat_Int, Int.sub_zero]
  · refine ⟨⟨_, rfl, .refl _⟩, rfl, ⟨_, rfl, ?_⟩, rfl, trivial⟩
    rw [digF, fromE_zero, intsO, List.map_replicate]; exact .refl _
  have hdl : (digF g pl num k).length = (sets g pl).length := fromE_length _ _ _ _
  rcases Nat.lt_or_ge k (sets g pl).length with h9 | h9
  · obtain ⟨j, hj⟩ : ∃ j : Nat, j + k + 1 = (sets g pl).length := ⟨(sets g pl).length - 1 - k, by omega⟩
    have hji : ((sets g pl).length : Int) - 1 - k = (j : Int) := by omega
    have hjl : j < (sets g pl).length := by omega
    obtain ⟨b1, b2⟩ := size_bound hg hpl hjl
    obtain ⟨n1, n2⟩ := numA_step (num := num) hj
    obtain ⟨m1, m2⟩ := numA_nonneg (fun x hx => (sizes_ok hg hpl x hx).1) h0 k (by omega)
    have hset : (digF g pl num k).set j (digA (sizesL g pl) num j) = digF g pl num (k + 1) := fromE_set hj
    rw [hji]
    simp -implicitDefEqProofs only [go_sem, evR, ints, rows, rat, rats, rowsO, intsO, hll, sizesL_get hjl, hdl, List.length_map, List.getElem?_map, Option.map_some, Option.getD_some, decide_eq_true (show (j : Int) ≥ 0 by omega)]
    repeat (first | refine ⟨by omega, ?_⟩ | refine ⟨by rw [nd_len]; omega, ?_⟩)
    have hq2 : (numA (sizesL g pl) num k).tmod (sizeAt g pl j : Int) = digA (sizesL g pl) num j := by rw [n2, Int.tmod_eq_emod_of_nonneg m1]
    have hq3 : IntKind.i64.wrap ((numA (sizesL g pl) num k).tdiv (sizeAt g pl j : Int)) = numA (sizesL g pl) num (k + 1) := by
      rw [n1, Int.tdiv_eq_ediv_of_nonneg m1]
      have := Int.ediv_le_self (sizeAt g pl j : Int) m1
      have := Int.ediv_nonneg m1 (show 0 ≤ (sizeAt g pl j : Int) by omega)
      exact wrap64 (by omega) (by omega)
    refine hn _ (k + 1) (Weak.of _ _ [some 6, some 97] (by simp) (by simp) ?_ ?_) (by omega) (by omega)
    · simp -implicitDefEqProofs only [ints, rows, Nat.reduceBEq, wkR, Nat.reduceEqDiff, ↓reduceIte, wrR, hq2, hq3, wrap64 (n := (j : Int) - 1) (by omega) (by omega), show ((sets g pl).length : Int) - 1 - ((k + 1 : Nat) : Int) = (j : Int) - 1 by omega]
    · refine ⟨⟨_, rfl, .refl _⟩, rfl, ⟨_, rfl, ?_⟩, rfl, trivial⟩
      rw [← hset, intsO, List.map_set, hq2]; exact .refl _
  · have hkl : k = (sets g pl).length := by omega
    rw [show digF g pl num k = digF g pl num (sets g pl).length by rw [hkl]]
    simp -implicitDefEqProofs only [go_sem, evR, ints, rows, rat, rats, intsO, decide_eq_false (show ¬ (((sets g pl).length : Int) - 1 - k) ≥ 0 by omega)]
    refine he _ _ ?_
    simp -implicitDefEqProofs only [go_sem, evR, ints, rows, rat, rats]
    have hp := spec_l22Pure_ok g hg pl hpl num
    rw [show (List.range (sets g pl).length).map (digA (sizesL g pl) num) = digF g pl num (sets g pl).length from (fromE_all _ _ _).symm] at hp
    simp only [ints] at hp
    refine CallW.res hp [97] rfl Try.call203 ?_ (.inr ⟨trivial, rowsO_noSh _, trivial⟩) ?_
    · simp -implicitDefEqProofs only [agR, Nat.reduceLeDiff, Nat.reduceSub, vaR, go_sem, ints, rows, rat, rats, ratsO, rtR, intsO, rowsO]
    simp -implicitDefEqProofs only [clR, Nat.reduceLeDiff, go_sem, evR, rat, ints, intsO, rowsO, opR, Nat.reduceBEq]
set_option maxRecDepth 20000 in
theorem impl_PureStrategy_ok (g : Gm) (hgl : gameL g) (hg : isGameB g = true) (pl : Int) (hpl : pl = 0 ∨ pl = 1) (num : Int) (h0 : 0 ≤ num) (h1 : num < nPure g pl) (hb : nPure g pl ≤ 1000000000) : Fun Try.prog 206 [] [.t (.agg [.sh 5 (chunk nodeC g.nd), .sh 1 (g.w.map ints), .sh 1 (g.v.map ints)]), .t (.i pl), .t (.i num)] fun o r => o = [] ∧ r = .tup [.agg [.i pl, .arr 1 ((pureM g pl num).map intsO)], .i 0] := by
  obtain ⟨p1, p2, p3, p4, p5⟩ := isGameB_parts hg
  obtain ⟨t1, t2, t3, t4⟩ := isTreeB_spec p1
  have hsl := sets_len g pl t1.2 p2.2
  have hll := sizesL_length g pl
  refine fun_impl_PureStrategy_h (by simp) ?_
  simp -implicitDefEqProofs only [go_sem, evR, ints, rows, rat, rats, c_impl_PureStrategy_h, opR, Nat.reduceBEq]
  have hq := impl_CountPure_ok g hgl hg pl hpl
  rw [cpR_small hg hpl hb] at hq
  refine CallW.pure hq [] rfl Try.call205 ?_ (by first | trivial | simp [T.noSh, T.noShL, rat]) rfl ?_
  · simp -implicitDefEqProofs only [agR, Nat.reduceLeDiff, Nat.reduceSub, vaR, go_sem, ints, rows, rat, rats, ratsO, rtR, intsO, rowsO]
  simp -implicitDefEqProofs only [go_sem, evR, ints, rows, rat, rats, bne_self_eq_false, wrap64 (n := nPure g pl - 1) (by omega) (by omega)]
  have hq := impl_within_ok num 0 (nPure g pl - 1)
  rw [decide_eq_true (show 0 ≤ num ∧ num ≤ nPure g pl - 1 by omega)] at hq
  refine CallW.pure hq [] rfl Try.call110 ?_ (by first | trivial | simp [T.noSh, T.noShL, rat]) rfl ?_
  · simp -implicitDefEqProofs only [agR, Nat.reduceLeDiff, Nat.reduceSub, vaR, go_sem, ints, rows, rat, rats, ratsO, rtR, intsO, rowsO]
  simp -implicitDefEqProofs only [go_sem, evR, ints, rows, rat, rats, bne_self_eq_false, opR, Nat.reduceBEq]
  have hp := infoSets_t g pl t1.2 p2.2
  simp only [rowsO] at hp
  refine CallW.res hp [] rfl Try.call152 ?_ (.inl rfl) ?_
  · simp -implicitDefEqProofs only [agR, Nat.reduceLeDiff, Nat.reduceSub, vaR, go_sem, ints, rows, rat, rats, ratsO, rtR, intsO, rowsO]
  simp -implicitDefEqProofs only [clR, Nat.reduceLeDiff, go_sem, evR, rat, List.length_map, made_one, opR, Nat.reduceBEq]
  have hwl : IntKind.i64.wrap (((sets g pl).length : Int) - 1) = ((sets g pl).length : Int) - 1 := wrap64 (by omega) (by omega)
  refine ⟨by omega, by omega, ?_⟩
  refine SemC.loopR (σ := Nat) (fun k => St.of [(2, .t (.i (numA (sizesL g pl) num k))), (3, .own 3), (6, .own 6), (10, .t (rows (sets g pl))), (11, .own 11), (12, .t (.i (((sets g pl).length : Int) - 1 - k)))] [(3, .box [nodes g.nd, rows g.w, rows g.v]), (6, .box [.i 0, .v (.slice none 0 0)]), (11, .box [.i pl, .arr 1 (rowF g pl num k)])]) (fun k => k ≤ (sets g pl).length) (fun k => (sets g pl).length - k) 0 (Weak.trans (Weak.share 32 rfl) (Weak.of _ _ [some 3, some 6, some 11] (by simp) (by simp) ?_ ?_)) (by omega) fun k hk R hn hr he => ?_
  · simp -implicitDefEqProofs only [ints, rows, Nat.reduceBEq, wkR, Nat.reduceEqDiff, ↓reduceIte, wrR, shareA, T.toSh, toShL_intsO, hwl, numA, nodes, Int.natCast_zero, Int.cast_ofNat_Int, Int.sub_zero]
  · refine ⟨⟨_, rfl, .refl _⟩, rfl, ⟨_, rfl, .refl _⟩, rfl, ⟨_, rfl, ?_⟩, rfl, trivial⟩
    rw [rowF, fromE_zero]; exact .refl _
  have hdl : (rowF g pl num k).length = (sets g pl).length := fromE_length _ _ _ _
  rcases Nat.lt_or_ge k (sets g pl).length with h9 | h9
  · obtain ⟨j, hj⟩ : ∃ j : Nat, j + k + 1 = (sets g pl).length := ⟨(sets g pl).length - 1 - k, by omega⟩
    have hji : ((sets g pl).length : Int) - 1 - k = (j : Int) := by omega
    have hjl : j < (sets g pl).length := by omega
    obtain ⟨b1, b2⟩ := size_bound hg hpl hjl
    obtain ⟨n1, n2⟩ := numA_step (num := num) hj
    obtain ⟨m1, m2⟩ := numA_nonneg (fun x hx => (sizes_ok hg hpl x hx).1) h0 k (by omega)
    have hset : (rowF g pl num k).set j (intsO (pureR g pl num j)) = rowF g pl num (k + 1) := fromE_set hj
    have hq2 : (numA (sizesL g pl) num k).tmod (sizeAt g pl j : Int) = digA (sizesL g pl) num j := by rw [n2, Int.tmod_eq_emod_of_nonneg m1]
    have hq3 : IntKind.i64.wrap ((numA (sizesL g pl) num k).tdiv (sizeAt g pl j : Int)) = numA (sizesL g pl) num (k + 1) := by
      rw [n1, Int.tdiv_eq_ediv_of_nonneg m1]
      have := Int.ediv_le_self (sizeAt g pl j : Int) m1
      have := Int.ediv_nonneg m1 (show 0 ≤ (sizeAt g pl j : Int) by omega)
      exact wrap64 (by omega) (by omega)
    obtain ⟨d, hd1, hd2⟩ := digA_nat hg hpl num hjl
    obtain ⟨a1, a2, a3, a4, a5, a6⟩ := set_parts hjl
    obtain ⟨x, hx⟩ : ∃ x, g.nd[setN g pl j]? = some x := ⟨_, List.getElem?_eq_getElem a2⟩
    have hxd : g.nd.getD (setN g pl j) nd0 = x := by rw [List.getD_eq_getElem?_getD, hx]; rfl
    rw [hxd] at a5
    rw [hji]
    simp -implicitDefEqProofs only [go_sem, evR, ints, rows, rat, rats, nodes, a1, nd_get4 hx, ← a5, List.getElem?_cons_zero, List.getElem?_cons_succ, List.length_map, List.getElem?_map, Option.map_some, Option.getD_some, decide_eq_true (show (j : Int) ≥ 0 by omega), opR, Nat.reduceBEq]
    repeat (first | refine ⟨by omega, ?_⟩ | refine ⟨by rw [nd_len]; omega, ?_⟩)
    refine ⟨_, Weak.open 11 1 501 rfl rfl rfl (by decide) rfl, ?_⟩
    simp -implicitDefEqProofs only [go_sem, evR, ints, rows, rat, rats, hdl, made_one, opR, Nat.reduceBEq]
    repeat (first | refine ⟨by omega, ?_⟩ | refine ⟨by rw [nd_len]; omega, ?_⟩)
    have hc1 : ((rowF g pl num k).set j (T.arr 1 (List.replicate (sizeAt g pl j) (T.v (.int .i64 0)))))[j]? = some (T.arr 1 (List.replicate (sizeAt g pl j) (T.v (.int .i64 0)))) := List.getElem?_set_self (by omega)
    have hc3 : ((rowF g pl num k).set j T.any)[j]? = some T.any := List.getElem?_set_self (by omega)
    refine ⟨_, Weak.open 501 j 502 rfl hc1 rfl (by decide) rfl, ?_⟩
    simp -implicitDefEqProofs only [go_sem, evR, ints, rows, rat, rats, hdl, hc1, hc3, hq2, hd1, List.length_set, List.length_replicate, opR, Nat.reduceBEq]
    repeat (first | refine ⟨by omega, ?_⟩ | refine ⟨by rw [nd_len]; omega, ?_⟩)
    refine hn _ (k + 1) (Weak.trans (Weak.close1 501 j 502 rfl rfl (by decide) hc3) (Weak.trans (Weak.close1 11 1 501 rfl rfl (by decide) rfl) (Weak.of _ _ [some 3, some 6, some 11] (by simp) (by simp) ?_ ?_))) (by omega) (by omega)
    · simp -implicitDefEqProofs only [ints, rows, Nat.reduceBEq, wkR, Nat.reduceEqDiff, ↓reduceIte, wrR, nodes, hq3, wrap64 (n := (j : Int) - 1) (by omega) (by omega), show ((sets g pl).length : Int) - 1 - ((k + 1 : Nat) : Int) = (j : Int) - 1 by omega]
    · refine ⟨⟨_, rfl, .refl _⟩, rfl, ⟨_, rfl, .refl _⟩, rfl, ⟨_, rfl, ?_⟩, rfl, trivial⟩
      rw [← hset, pureR, pureL, hd1, Int.toNat_natCast, intsO, List.map_set, List.map_replicate, List.set_set]
      exact .refl _
  · have hkl : k = (sets g pl).length := by omega
    rw [show rowF g pl num k = rowF g pl num (sets g pl).length by rw [hkl], show rowF g pl num (sets g pl).length = (pureM g pl num).map intsO by rw [rowF, fromE_all, pureM, List.map_map]; rfl]
    simp -implicitDefEqProofs only [go_sem, evR, ints, rows, rat, rats, nodes, decide_eq_false (show ¬ (((sets g pl).length : Int) - 1 - k) ≥ 0 by omega), opR, Nat.reduceBEq]
    refine he _ _ ?_
    simp -implicitDefEqProofs only [go_sem, evR, ints, rows, rat, rats, opR, Nat.reduceBEq]
end
end Go.Ab

/- Tables as data: bounds and saddle points. -/
set_option linter.unusedSimpArgs false
set_option linter.unusedVariables false
namespace Go.Ab

theorem low_spec {m : List (List Int)} (h1 : m ≠ []) : ∃ (i : Nat) (r : List Int), m[i]? = some r ∧ minL r = lowT m ∧ ∀ r' ∈ m, minL r' ≤ lowT m := by
  obtain ⟨a, b⟩ := maxL_spec (l := m.map minL) (by simpa using h1)
  obtain ⟨r, hr, e⟩ := List.mem_map.1 b
  obtain ⟨i, hi⟩ := List.mem_iff_getElem?.1 hr
  exact ⟨i, r, hi, e, fun r' hr' => a _ (List.mem_map.2 ⟨r', hr', rfl⟩)⟩
theorem high_spec {m : List (List Int)} {c : Nat} (hc : 1 ≤ c) : ∃ k, k < c ∧ maxL (colOf m k) = highT m c ∧ ∀ k', k' < c → highT m c ≤ maxL (colOf m k') := by
  obtain ⟨a, b⟩ := minL_spec (l := (tr m c).map maxL) (by simp [tr]; omega)
  obtain ⟨r, hr, e⟩ := List.mem_map.1 b
  obtain ⟨k, hk, rfl⟩ := List.mem_map.1 hr
  exact ⟨k, by simpa using hk, e, fun k' hk' => a _ (List.mem_map.2 ⟨colOf m k', List.mem_map.2 ⟨k', by simpa using hk', rfl⟩, rfl⟩)⟩
theorem ent_row {m : List (List Int)} {c i k : Nat} (hr : rect m c) {r : List Int} (hi : m[i]? = some r) (hk : k < c) : r[k]? = some (ent m i k) := by
  have hl := hr r (List.mem_of_getElem? hi)
  have hx := List.getElem?_eq_getElem (show k < r.length by omega)
  rw [ent_get hi hx]; exact hx
theorem ent_col {m : List (List Int)} {c i k : Nat} (hr : rect m c) {r : List Int} (hi : m[i]? = some r) (hk : k < c) : ent m i k ∈ colOf m k := by
  refine List.mem_map.2 ⟨r, List.mem_of_getElem? hi, ?_⟩
  rw [List.getD_eq_getElem?_getD, ent_row hr hi hk]; rfl
theorem table_law {m : List (List Int)} {c : Nat} (h1 : 1 ≤ m.length) (hc : 1 ≤ c) (hr : rect m c) : lowT m ≤ highT m c ∧ ((∃ i k : Nat, i < m.length ∧ k < c ∧ saddle m c = ((i : Int), (k : Int), 0) ∧ ent m i k = lowT m ∧ lowT m = highT m c) ∨ saddle m c = (0, 0, 4) ∧ lowT m ≠ highT m c) := by
  obtain ⟨i0, r0, hi0, e0, a0⟩ := low_spec (m := m) (by rintro rfl; simp at h1)
  obtain ⟨k0, hk0, f0, b0⟩ := high_spec (m := m) hc
  have hle : ∀ {i r k}, m[i]? = some r → k < c → minL r ≤ ent m i k ∧ ent m i k ≤ maxL (colOf m k) := fun {i r k} hi hk => by
    have hx := List.mem_of_getElem? (ent_row hr hi hk)
    have hy := ent_col hr hi hk
    exact ⟨(minL_spec (List.ne_nil_of_mem hx)).1 _ hx, (maxL_spec (List.ne_nil_of_mem hy)).1 _ hy⟩
  have hlh : lowT m ≤ highT m c := by
    have := hle hi0 hk0
    omega
  refine ⟨hlh, ?_⟩
  by_cases h : ∃ i k, i < m.length ∧ k < c ∧ sad m c i k = true
  · refine .inl ?_
    cases hf : ((List.range m.length).flatMap fun i => (List.range c).map fun k => (i, k)).find? fun p => sad m c p.1 p.2 with
    | none =>
      obtain ⟨i, k, hi, hk, hs⟩ := h
      rw [List.find?_eq_none] at hf
      exact absurd hs (hf (i, k) (List.mem_flatMap.2 ⟨i, by simpa using hi, List.mem_map.2 ⟨k, by simpa using hk, rfl⟩⟩))
    | some p =>
      obtain ⟨i, k⟩ := p
      have hm := List.mem_of_find?_eq_some hf
      have hs := List.find?_some hf
      obtain ⟨i', hi', hm⟩ := List.mem_flatMap.1 hm
      obtain ⟨k', hk', he⟩ := List.mem_map.1 hm
      cases he
      have hi : i < m.length := by simpa using hi'
      have hk : k < c := by simpa using hk'
      have hri := List.getElem?_eq_getElem hi
      have hsad := sad_eq hri (hr _ (List.getElem_mem hi)) (ent_row hr hri hk)
      simp only [] at hs
      rw [hs, eq_comm, Bool.and_eq_true, decide_eq_true_eq, decide_eq_true_eq] at hsad
      have q1 := a0 _ (List.getElem_mem hi)
      have q2 := b0 k hk
      have q3 := hsad.1
      have q4 := hsad.2
      exact ⟨i, k, hi, hk, by rw [saddle, hf], by omega, by omega⟩
  · refine .inr ⟨saddle_none fun i k hi hk => ?_, fun e => h ⟨i0, k0, (List.getElem?_eq_some_iff.1 hi0).1, hk0, ?_⟩⟩
    · cases hs : sad m c i k with
      | false => rfl
      | true => exact absurd ⟨i, k, hi, hk, hs⟩ h
    · rw [sad_eq hi0 (hr _ (List.mem_of_getElem? hi0)) (ent_row hr hi0 hk0), Bool.and_eq_true, decide_eq_true_eq, decide_eq_true_eq]
      have := hle hi0 hk0
      omega
end Go.Ab

/- Contracts: tables of pure strategies. -/
set_option linter.unusedSimpArgs false
set_option linter.unusedVariables false
namespace Go.Ab
open Go.Proofs
def psO (g : Gm) (pl : Int) (i : Nat) : List T := [.i pl, rowsO (pureM g pl i)]
def psS (g : Gm) (pl : Int) (i : Nat) : List T := [.i pl, rows (pureM g pl i)]
theorem psO_len (g : Gm) (pl : Int) (i : Nat) : (psO g pl i).length = 2 := rfl
theorem psS_len (g : Gm) (pl : Int) (i : Nat) : (psS g pl i).length = 2 := rfl
theorem toShL_ps (g : Gm) (pl : Int) (l : List Nat) : T.toShL (chunk (psO g pl) l) = chunk (psS g pl) l := by
  induction l with
  | nil => rfl
  | cons x l ih =>
    rw [chunk_cons, chunk_cons, T.toShL_eq_map, List.map_append, ← T.toShL_eq_map (chunk (psO g pl) l), ih]
    congr 1
    show [T.i pl, (rowsO (pureM g pl x)).toSh] = _
    rw [rowsO_toSh]; rfl
section
attribute [-go_sem] load1C load1V fldC lenC idxC loadNV nilCheckW
theorem impl_CountPure_bad (g : Gm) (hgl : gameL g) (hg : isGameB g = false) (pl : Int) : Pure Try.prog 205 [.agg [.sh 5 (chunk nodeC g.nd), .sh 1 (g.w.map ints), .sh 1 (g.v.map ints)], .i pl] (.tup [.i 0, .i 1]) := by
  refine fun_impl_CountPure (by simp) ?_
  simp -implicitDefEqProofs only [go_sem, evR, ints, rows, rat, rats, c_impl_CountPure, opR, Nat.reduceBEq]
  have hq := isGame_t (impl_IsGame_ok g hgl)
  rw [hg] at hq
  refine CallW.pure hq [] rfl Try.call115 ?_ (by first | trivial | simp [T.noSh, T.noShL, rat]) rfl ?_
  · simp -implicitDefEqProofs only [agR, Nat.reduceLeDiff, Nat.reduceSub, vaR, go_sem, ints, rows, rat, rats, ratsO, rtR, intsO, rowsO]
  simp -implicitDefEqProofs only [go_sem, evR, ints, rows, rat, rats]
theorem impl_pureStrategies_bad (g : Gm) (hgl : gameL g) (hg : isGameB g = false) (pl : Int) : Pure Try.prog 162 [.agg [.sh 5 (chunk nodeC g.nd), .sh 1 (g.w.map ints), .sh 1 (g.v.map ints)], .i pl] (.tup [.v (.slice none 0 0), .i 1]) := by
  refine fun_impl_pureStrategies (by simp) ?_
  simp -implicitDefEqProofs only [go_sem, evR, ints, rows, rat, rats, c_impl_pureStrategies, opR, Nat.reduceBEq]
  refine CallW.pure (impl_CountPure_bad g hgl hg pl) [] rfl Try.call205 ?_ (by first | trivial | simp [T.noSh, T.noShL, rat]) rfl ?_
  · simp -implicitDefEqProofs only [agR, Nat.reduceLeDiff, Nat.reduceSub, vaR, go_sem, ints, rows, rat, rats, ratsO, rtR, intsO, rowsO]
  simp -implicitDefEqProofs only [go_sem, evR, ints, rows, rat, rats]
  exact ⟨fun h => absurd h (by decide), fun _ => ⟨fun _ => trivial, fun h => absurd h (by decide)⟩⟩
theorem impl_pureStrategies_big (g : Gm) (hgl : gameL g) (hg : isGameB g = true) (pl : Int) (hpl : pl = 0 ∨ pl = 1) (hb : 16 < nPure g pl) : Pure Try.prog 162 [.agg [.sh 5 (chunk nodeC g.nd), .sh 1 (g.w.map ints), .sh 1 (g.v.map ints)], .i pl] (.tup [.v (.slice none 0 0), .i 3]) := by
  have hq := impl_CountPure_ok g hgl hg pl hpl
  refine fun_impl_pureStrategies (by simp) ?_
  simp -implicitDefEqProofs only [go_sem, evR, ints, rows, rat, rats, c_impl_pureStrategies, opR, Nat.reduceBEq]
  by_cases h9 : nPure g pl ≤ 1000000000
  · rw [cpR_small hg hpl h9] at hq
    refine CallW.pure hq [] rfl Try.call205 ?_ (by first | trivial | simp [T.noSh, T.noShL, rat]) rfl ?_
    · simp -implicitDefEqProofs only [agR, Nat.reduceLeDiff, Nat.reduceSub, vaR, go_sem, ints, rows, rat, rats, ratsO, rtR, intsO, rowsO]
    simp -implicitDefEqProofs only [go_sem, evR, ints, rows, rat, rats, beq_self_eq_true, decide_eq_true (show nPure g pl > 16 by omega)]
    exact ⟨fun _ => ⟨fun _ => trivial, fun h => absurd h (by decide)⟩, fun h => absurd (show nPure g pl > 16 by omega) h⟩
  · rw [show cpR g pl = (0, 3) by rw [cpR, if_pos hg, if_pos (by omega), if_neg h9]] at hq
    refine CallW.pure hq [] rfl Try.call205 ?_ (by first | trivial | simp [T.noSh, T.noShL, rat]) rfl ?_
    · simp -implicitDefEqProofs only [agR, Nat.reduceLeDiff, Nat.reduceSub, vaR, go_sem, ints, rows, rat, rats, ratsO, rtR, intsO, rowsO]
    simp -implicitDefEqProofs only [go_sem, evR, ints, rows, rat, rats]
    refine ⟨fun h => absurd h (by decide), fun _ => ⟨fun _ => trivial, fun h => absurd h (by decide)⟩⟩
set_option maxRecDepth 20000 in
theorem impl_pureStrategies_ok (g : Gm) (hgl : gameL g) (hg : isGameB g = true) (pl : Int) (hpl : pl = 0 ∨ pl = 1) (hb : nPure g pl ≤ 16) : Fun Try.prog 162 [] [.t (.agg [.sh 5 (chunk nodeC g.nd), .sh 1 (g.w.map ints), .sh 1 (g.v.map ints)]), .t (.i pl)] fun o r => o = [] ∧ r = .tup [.arr 2 (chunk (psO g pl) (List.range (nPure g pl).toNat)), .i 0] := by
  have h1 := nPure_pos hg hpl
  refine fun_impl_pureStrategies (by simp) ?_
  simp -implicitDefEqProofs only [go_sem, evR, ints, rows, rat, rats, c_impl_pureStrategies, opR, Nat.reduceBEq]
  have hq := impl_CountPure_ok g hgl hg pl hpl
  rw [cpR_small hg hpl (by omega)] at hq
  refine CallW.pure hq [] rfl Try.call205 ?_ (by first | trivial | simp [T.noSh, T.noShL, rat]) rfl ?_
  · simp -implicitDefEqProofs only [agR, Nat.reduceLeDiff, Nat.reduceSub, vaR, go_sem, ints, rows, rat, rats, ratsO, rtR, intsO, rowsO]
  simp -implicitDefEqProofs only [go_sem, evR, ints, rows, rat, rats, beq_self_eq_true, bne_self_eq_false, decide_eq_false (show ¬ nPure g pl > 16 by omega)]
  obtain ⟨n, hn⟩ : ∃ n : Nat, nPure g pl = n := ⟨_, (Int.toNat_of_nonneg (by omega)).symm⟩
  rw [hn] at h1 hb ⊢
  refine ⟨fun h => absurd h (by omega), fun _ => ?_⟩
  rw [Int.toNat_natCast]
  refine SemC.loopR (σ := Nat) (fun k => St.of [(1, .t (.i pl)), (2, .own 2), (8, .own 98), (27, .t (.i n)), (28, .t (.i k))] [(2, .box [nodes g.nd, rows g.w, rows g.v]), (98, .arr 2 (chunk (psO g pl) (List.range k)))]) (fun k => k ≤ n) (fun k => n - k) 0 (Weak.of _ _ [some 2, none] (by simp) (by simp) ?_ ?_) (by omega) fun k hk R hn1 hr he => ?_
  · simp -implicitDefEqProofs only [ints, rows, Nat.reduceBEq, wkR, Nat.reduceEqDiff, ↓reduceIte, wrR, nodes]
  · exact ⟨⟨_, rfl, .refl _⟩, rfl, ⟨2, rfl⟩, trivial⟩
  rcases Nat.lt_or_ge k n with h9 | h9
  · have hlc : (chunk (psO g pl) (List.range k)).length = k * 2 := by rw [chunk_length (psO_len g pl), List.length_range]
    simp -implicitDefEqProofs only [go_sem, evR, ints, rows, rat, rats, nodes, decide_eq_true (show (k : Int) < (n : Int) by omega), opR, Nat.reduceBEq]
    have hp := impl_PureStrategy_ok g hgl hg pl hpl k (by omega) (by omega) (by omega)
    refine CallW.res hp [] rfl Try.call206 ?_ (.inl rfl) ?_
    · simp -implicitDefEqProofs only [agR, Nat.reduceLeDiff, Nat.reduceSub, vaR, go_sem, ints, rows, rat, rats, ratsO, rtR, intsO, rowsO]
    simp -implicitDefEqProofs only [clR, Nat.reduceLeDiff, go_sem, evR, rat, opR, Nat.reduceBEq]
    refine ⟨by rw [hlc]; omega, hn1 _ (k + 1) (Weak.of _ _ [some 2, some 41] (by simp) (by simp) ?_ ?_) (by omega) (by omega)⟩
    · simp -implicitDefEqProofs only [ints, rows, Nat.reduceBEq, wkR, Nat.reduceEqDiff, ↓reduceIte, wrR, nodes, next64 h9 (by omega)]
    · refine ⟨⟨_, rfl, .refl _⟩, rfl, ⟨_, rfl, ?_⟩, rfl, trivial⟩
      rw [List.range_succ, chunk_append, chunk_cons, chunk_nil, List.append_nil, psO, rowsO]; exact .refl _
  · rw [show k = n by omega]
    simp -implicitDefEqProofs only [go_sem, evR, ints, rows, rat, rats, nodes, decide_eq_false (show ¬ (n : Int) < (n : Int) by omega), opR, Nat.reduceBEq]
    refine he _ _ ?_
    simp -implicitDefEqProofs only [go_sem, evR, ints, rows, rat, rats, opR, Nat.reduceBEq]
theorem tabM_take {g : Gm} {i n m : Nat} (h0 : nPure g 0 = n) (h1 : nPure g 1 = m) (h : i < n) : (tabM g).take (i + 1) = (tabM g).take i ++ [tabRow g m i] := take_snoc (by rw [tabM, h0, h1, Int.toNat_natCast, Int.toNat_natCast, List.getElem?_map, List.getElem?_range h]; rfl)
theorem tabM_len {g : Gm} {n : Nat} (h0 : nPure g 0 = n) : (tabM g).length = n := by rw [tabM, List.length_map, List.length_range, h0, Int.toNat_natCast]
theorem tabRow_len (g : Gm) (m i : Nat) : (tabRow g m i).length = m := by rw [tabRow, List.length_map, List.length_range]
theorem tabRow_take {g : Gm} {m i k : Nat} (h : k < m) : (tabRow g m i).take (k + 1) = (tabRow g m i).take k ++ [tabE g i k] := take_snoc (by rw [tabRow, List.getElem?_map, List.getElem?_range h]; rfl)
set_option maxRecDepth 20000 in
set_option maxHeartbeats 1000000 in
theorem impl_tableOf_ok (g : Gm) (hgl : gameL g) (hg : isGameB g = true) (hb0 : nPure g 0 ≤ 16) (hb1 : nPure g 1 ≤ 16) : Fun Try.prog 100 [] [.t (.agg [.sh 5 (chunk nodeC g.nd), .sh 1 (g.w.map ints), .sh 1 (g.v.map ints)])] fun o r => o = [] ∧ r = .tup [rowsO (tabM g), .i 0] := by
  obtain ⟨p1, p2, p3, p4, p5⟩ := isGameB_parts hg
  obtain ⟨t1, t2, t3, t4⟩ := isTreeB_spec p1
  obtain ⟨g1, g2, g3, g4, g5, g6, g7⟩ := game_unit hg
  have hdep := dep_t (impl_depthFrom_ok t2 (by omega) g.nd.length 0 (by omega) (by omega) (by omega))
  rw [g2] at hdep
  have hpw := pw_pos (dpt g)
  have n0 := nPure_pos hg ((.inl rfl) : (0 : Int) = 0 ∨ (0 : Int) = 1)
  have n1 := nPure_pos hg ((.inr rfl) : (1 : Int) = 0 ∨ (1 : Int) = 1)
  have hq0 := impl_pureStrategies_ok g hgl hg 0 (.inl rfl) hb0
  have hq1 := impl_pureStrategies_ok g hgl hg 1 (.inr rfl) hb1
  obtain ⟨n, hn0⟩ : ∃ n : Nat, nPure g 0 = n := ⟨_, (Int.toNat_of_nonneg (by omega)).symm⟩
  obtain ⟨m, hm0⟩ : ∃ n : Nat, nPure g 1 = n := ⟨_, (Int.toNat_of_nonneg (by omega)).symm⟩
  rw [hn0] at hq0 hb0 n0
  rw [hm0] at hq1 hb1 n1
  rw [Int.toNat_natCast] at hq0 hq1
  have hl0 : (chunk (psS g 0) (List.range n)).length = n * 2 := by rw [chunk_length (psS_len g 0), List.length_range]
  have hl1 : (chunk (psS g 1) (List.range m)).length = m * 2 := by rw [chunk_length (psS_len g 1), List.length_range]
  have ha0 : ∀ i, i < n → ((chunk (psS g 0) (List.range n)).drop (i * 2)).take 2 = psS g 0 i := fun i h => chunk_at (psS_len g 0) (List.getElem?_range h)
  have ha1 : ∀ i, i < m → ((chunk (psS g 1) (List.range m)).drop (i * 2)).take 2 = psS g 1 i := fun i h => chunk_at (psS_len g 1) (List.getElem?_range h)
  have hs0 := toShL_ps g 0 (List.range n)
  have hs1 := toShL_ps g 1 (List.range m)
  refine fun_impl_tableOf (by simp) ?_
  simp -implicitDefEqProofs only [go_sem, evR, ints, rows, rat, rats, c_impl_tableOf, opR, Nat.reduceBEq]
  refine CallW.res hq0 [] rfl Try.call162 ?_ (.inl rfl) ?_
  · simp -implicitDefEqProofs only [agR, Nat.reduceLeDiff, Nat.reduceSub, vaR, go_sem, ints, rows, rat, rats, ratsO, rtR, intsO, rowsO]
  simp -implicitDefEqProofs only [clR, Nat.reduceLeDiff, go_sem, evR, rat, bne_self_eq_false, opR, Nat.reduceBEq]
  refine CallW.res hq1 [] rfl Try.call162 ?_ (.inl rfl) ?_
  · simp -implicitDefEqProofs only [agR, Nat.reduceLeDiff, Nat.reduceSub, vaR, go_sem, ints, rows, rat, rats, ratsO, rtR, intsO, rowsO]
  simp -implicitDefEqProofs only [clR, Nat.reduceLeDiff, go_sem, evR, rat, bne_self_eq_false, opR, Nat.reduceBEq]
  refine CallW.pure hdep [] rfl Try.call164 ?_ (by first | trivial | simp [T.noSh, T.noShL, rat]) rfl ?_
  · simp -implicitDefEqProofs only [agR, Nat.reduceLeDiff, Nat.reduceSub, vaR, go_sem, ints, rows, rat, rats, ratsO, rtR, intsO, rowsO]
  simp -implicitDefEqProofs only [go_sem, evR, ints, rows, rat, rats]
  refine CallW.pure (impl_powerOf_ok (dpt g) (by omega)) [] rfl Try.call163 ?_ (by first | trivial | simp [T.noSh, T.noShL, rat]) rfl ?_
  · simp -implicitDefEqProofs only [agR, Nat.reduceLeDiff, Nat.reduceSub, vaR, go_sem, ints, rows, rat, rats, ratsO, rtR, intsO, rowsO]
  simp -implicitDefEqProofs only [go_sem, evR, ints, rows, rat, rats]
  have hd0 : (chunk (psO g 0) (List.range n)).length / 2 = n := by rw [chunk_div (psO_len g 0) (by decide), List.length_range]
  have hd1 : (chunk (psS g 1) (List.range m)).length / 2 = m := by rw [chunk_div (psS_len g 1) (by decide), List.length_range]
  refine SemC.loopR (σ := Nat) (fun i => St.of [(1, .own 1), (6, .t (.sh 2 (chunk (psS g 1) (List.range m)))), (7, .t (.i (pw (dpt g)))), (8, .own 98), (34, .t (.sh 2 (chunk (psS g 0) (List.range n)))), (35, .t (.i n)), (36, .t (.i i))] [(1, .box [nodes g.nd, rows g.w, rows g.v]), (98, rowsO ((tabM g).take i))]) (fun i => i ≤ n) (fun i => n - i) 0 (Weak.trans (Weak.share 16 rfl) (Weak.trans (Weak.share 24 rfl) (Weak.of _ _ [some 1, none] (by simp) (by simp) ?_ ?_))) (by omega) fun i hi R hn hr he => ?_
  · simp -implicitDefEqProofs only [ints, rows, Nat.reduceBEq, wkR, Nat.reduceEqDiff, ↓reduceIte, wrR, shareA, T.toSh, hs0, hs1, nodes, hd0]
  · exact ⟨⟨_, rfl, .refl _⟩, rfl, ⟨1, rfl⟩, trivial⟩
  rcases Nat.lt_or_ge i n with h9 | h9
  · simp -implicitDefEqProofs only [go_sem, evR, ints, rows, rat, rats, nodes, decide_eq_true (show (i : Int) < (n : Int) by omega), hl0, ha0 i h9, hd1, psS, opR, Nat.reduceBEq]
    repeat (first | refine ⟨by omega, ?_⟩ | refine ⟨by rw [nd_len]; omega, ?_⟩)
    refine SemC.loopR (σ := Nat) (fun k => St.of [(1, .own 1), (6, .t (.sh 2 (chunk (psS g 1) (List.range m)))), (7, .t (.i (pw (dpt g)))), (8, .own 98), (10, .t (.pin [.i 0, rows (pureM g 0 i)] 0)), (11, .own 99), (34, .t (.sh 2 (chunk (psS g 0) (List.range n)))), (35, .t (.i n)), (36, .t (.i i)), (40, .t (.sh 2 (chunk (psS g 1) (List.range m)))), (41, .t (.i m)), (42, .t (.i k))] [(1, .box [nodes g.nd, rows g.w, rows g.v]), (98, rowsO ((tabM g).take i)), (99, intsO ((tabRow g m i).take k))]) (fun k => k ≤ m) (fun k => m - k) 0 (Weak.trans (Weak.share 10 rfl) (Weak.of _ _ [some 1, some 98, none] (by simp) (by simp) ?_ ?_)) (by omega) fun k hk R2 hn2 hr2 he2 => ?_
    · simp -implicitDefEqProofs only [ints, rows, Nat.reduceBEq, wkR, Nat.reduceEqDiff, ↓reduceIte, wrR, shareA, T.toSh, T.toShL, nodes]
    · exact ⟨⟨_, rfl, .refl _⟩, rfl, ⟨_, rfl, .refl _⟩, rfl, ⟨1, rfl⟩, trivial⟩
    rcases Nat.lt_or_ge k m with h8 | h8
    · have hga := vb_t (impl_gameNumber_ok (s := (0, pureM g 0 i)) (t := (1, pureM g 1 k)) hg (pureM_parts hg (.inl rfl) i) (pureM_parts hg (.inr rfl) k))
      have hta := tabE_abs hg i k
      have hte : (gnum g (pureM g 0 i) (pureM g 1 k)).tdiv (pw (dpt g)) = tabE g i k := rfl
      have hltr : ((tabRow g m i).take k).length = k := by rw [List.length_take, tabRow_len]; omega
      simp -implicitDefEqProofs only [go_sem, evR, ints, rows, rat, rats, nodes, intsO, decide_eq_true (show (k : Int) < (m : Int) by omega), hl1, ha1 k h8, psS, opR, Nat.reduceBEq]
      repeat (first | refine ⟨by omega, ?_⟩ | refine ⟨by rw [nd_len]; omega, ?_⟩)
      refine CallW.pure hga [] rfl Try.call121 ?_ (by first | trivial | simp [T.noSh, T.noShL, rat]) rfl ?_
      · simp -implicitDefEqProofs only [agR, Nat.reduceLeDiff, Nat.reduceSub, vaR, go_sem, ints, rows, rat, rats, ratsO, rtR, intsO, rowsO]
      simp -implicitDefEqProofs only [go_sem, evR, ints, rows, rat, rats, hte, wrap64 (n := tabE g i k) (by omega) (by omega), List.length_map, hltr, opR, Nat.reduceBEq]
      refine ⟨by omega, by omega, hn2 _ (k + 1) (Weak.of _ _ [some 1, some 98, some 54] (by simp) (by simp) ?_ ?_) (by omega) (by omega)⟩
      · simp -implicitDefEqProofs only [ints, rows, Nat.reduceBEq, wkR, Nat.reduceEqDiff, ↓reduceIte, wrR, nodes, next64 h8 (by omega)]
      · refine ⟨⟨_, rfl, .refl _⟩, rfl, ⟨_, rfl, .refl _⟩, rfl, ⟨_, rfl, ?_⟩, rfl, trivial⟩
        rw [tabRow_take h8, intsO, List.map_append]; exact .refl _
    · rw [show k = m by omega, List.take_of_length_le (show (tabRow g m i).length ≤ m by rw [tabRow_len]; omega)]
      simp -implicitDefEqProofs only [go_sem, evR, ints, rows, rat, rats, nodes, rowsO, decide_eq_false (show ¬ (m : Int) < (m : Int) by omega), opR, Nat.reduceBEq]
      refine he2 _ _ ?_
      have hltm : ((tabM g).take i).length = i := by rw [List.length_take, tabM_len hn0]; omega
      simp -implicitDefEqProofs only [go_sem, evR, ints, rows, rat, rats, rowsO, intsO, List.length_map, hltm, opR, Nat.reduceBEq]
      refine ⟨by omega, hn _ (i + 1) (Weak.of _ _ [some 1, some 59] (by simp) (by simp) ?_ ?_) (by omega) (by omega)⟩
      · simp -implicitDefEqProofs only [ints, rows, Nat.reduceBEq, wkR, Nat.reduceEqDiff, ↓reduceIte, wrR, nodes, next64 h9 (by omega)]
      · refine ⟨⟨_, rfl, .refl _⟩, rfl, ⟨_, rfl, ?_⟩, rfl, trivial⟩
        rw [tabM_take hn0 hm0 h9, rowsO, List.map_append, List.map_cons, List.map_nil, intsO]; exact .refl _
  · rw [show i = n by omega]
    simp -implicitDefEqProofs only [go_sem, evR, ints, rows, rat, rats, nodes, rowsO, decide_eq_false (show ¬ (n : Int) < (n : Int) by omega), opR, Nat.reduceBEq]
    refine he _ _ ?_
    simp -implicitDefEqProofs only [go_sem, evR, ints, rows, rat, rats, rowsO, opR, Nat.reduceBEq]
    rw [List.take_of_length_le (by rw [tabM_len hn0]; omega)]
theorem impl_tableOf_bad (g : Gm) (hgl : gameL g) (hg : isGameB g = false) : Pure Try.prog 100 [.agg [.sh 5 (chunk nodeC g.nd), .sh 1 (g.w.map ints), .sh 1 (g.v.map ints)]] (.tup [.v (.slice none 0 0), .i 1]) := by
  refine fun_impl_tableOf (by simp) ?_
  simp -implicitDefEqProofs only [go_sem, evR, ints, rows, rat, rats, c_impl_tableOf, opR, Nat.reduceBEq]
  refine CallW.pure (impl_pureStrategies_bad g hgl hg 0) [] rfl Try.call162 ?_ (by first | trivial | simp [T.noSh, T.noShL, rat]) rfl ?_
  · simp -implicitDefEqProofs only [agR, Nat.reduceLeDiff, Nat.reduceSub, vaR, go_sem, ints, rows, rat, rats, ratsO, rtR, intsO, rowsO]
  simp -implicitDefEqProofs only [go_sem, evR, ints, rows, rat, rats]
  exact ⟨fun _ => trivial, fun h => absurd h (by decide)⟩
theorem impl_tableOf_big (g : Gm) (hgl : gameL g) (hg : isGameB g = true) (hb : ¬ (nPure g 0 ≤ 16 ∧ nPure g 1 ≤ 16)) : Pure Try.prog 100 [.agg [.sh 5 (chunk nodeC g.nd), .sh 1 (g.w.map ints), .sh 1 (g.v.map ints)]] (.tup [.v (.slice none 0 0), .i 3]) := by
  refine fun_impl_tableOf (by simp) ?_
  simp -implicitDefEqProofs only [go_sem, evR, ints, rows, rat, rats, c_impl_tableOf, opR, Nat.reduceBEq]
  by_cases h0 : nPure g 0 ≤ 16
  · have hq0 := impl_pureStrategies_ok g hgl hg 0 (.inl rfl) h0
    refine CallW.res hq0 [] rfl Try.call162 ?_ (.inl rfl) ?_
    · simp -implicitDefEqProofs only [agR, Nat.reduceLeDiff, Nat.reduceSub, vaR, go_sem, ints, rows, rat, rats, ratsO, rtR, intsO, rowsO]
    simp -implicitDefEqProofs only [clR, Nat.reduceLeDiff, go_sem, evR, rat, bne_self_eq_false, opR, Nat.reduceBEq]
    refine CallW.pure (impl_pureStrategies_big g hgl hg 1 (.inr rfl) (by omega)) [] rfl Try.call162 ?_ (by first | trivial | simp [T.noSh, T.noShL, rat]) rfl ?_
    · simp -implicitDefEqProofs only [agR, Nat.reduceLeDiff, Nat.reduceSub, vaR, go_sem, ints, rows, rat, rats, ratsO, rtR, intsO, rowsO]
    simp -implicitDefEqProofs only [go_sem, evR, ints, rows, rat, rats]
    exact ⟨fun _ => trivial, fun h => absurd h (by decide)⟩
  · refine CallW.pure (impl_pureStrategies_big g hgl hg 0 (.inl rfl) (by omega)) [] rfl Try.call162 ?_ (by first | trivial | simp [T.noSh, T.noShL, rat]) rfl ?_
    · simp -implicitDefEqProofs only [agR, Nat.reduceLeDiff, Nat.reduceSub, vaR, go_sem, ints, rows, rat, rats, ratsO, rtR, intsO, rowsO]
    simp -implicitDefEqProofs only [go_sem, evR, ints, rows, rat, rats]
    exact ⟨fun _ => trivial, fun h => absurd h (by decide)⟩
theorem cpR_le {g : Gm} (hg : isGameB g = true) {pl : Int} (hpl : pl = 0 ∨ pl = 1) (h : ((cpR g pl).2 != 0) = false) (h2 : ¬ (cpR g pl).1 > 16) : nPure g pl ≤ 16 := by
  by_cases e : nPure g pl ≤ 1000000000
  · rw [cpR_small hg hpl e] at h2; simp only [] at h2; omega
  · rw [show cpR g pl = (0, 3) by rw [cpR, if_pos hg, if_pos (by omega), if_neg e]] at h; simp at h
theorem tabR_bad {g : Gm} (hg : isGameB g = false) : tabR g = ([], 1) := by rw [tabR, hg]; rfl
theorem tabR_big {g : Gm} (hg : isGameB g = true) (hb : ¬ (nPure g 0 ≤ 16 ∧ nPure g 1 ≤ 16)) : tabR g = ([], 3) := by rw [tabR, if_pos hg, if_neg hb]
theorem tabR_ok {g : Gm} (hg : isGameB g = true) (hb : nPure g 0 ≤ 16 ∧ nPure g 1 ≤ 16) : tabR g = (tabM g, 0) := by rw [tabR, if_pos hg, if_pos hb]
def twO (r : List (List Int) × Int) : T := .tup [rowsO r.1, .i r.2]
theorem twLe {f : FuncId} {args : List A} {R : List (List Int) × Int} (h : Fun Try.prog f [] args fun o r => o = [] ∧ (r = twO R ∨ ∃ c, R = ([], c) ∧ r = .tup [.v (.slice none 0 0), .i c])) : Fun Try.prog f [] args fun o r => o = [] ∧ r = twO R := by
  refine Fun.le h ?_
  rintro o r ⟨rfl, rfl | ⟨c, e, rfl⟩⟩
  · exact ⟨_, .refl _, rfl, rfl⟩
  · refine ⟨twO R, ?_, rfl, rfl⟩
    rw [e]
    exact .tup2 (.nilArr _) (.refl _)
theorem impl_TableOf_ok (g : Gm) (hg : gameL g) : Fun Try.prog 23 [] [.t (gameT g)] fun o r => o = [] ∧ r = twO (tabR g) := by
  refine twLe ?_
  refine fun_impl_TableOf (by simp) ?_
  simp -implicitDefEqProofs only [go_sem, evR, ints, rows, rat, rats, c_impl_TableOf, gameT, nodes]
  rcases Bool.eq_false_or_eq_true (isGameB g) with hgb | hgb
  · by_cases hb : nPure g 0 ≤ 16 ∧ nPure g 1 ≤ 16
    · have hq := impl_tableOf_ok g hg hgb hb.1 hb.2
      simp only [rowsO] at hq
      refine CallW.res hq [] rfl Try.call100 ?_ (.inl rfl) ?_
      · simp -implicitDefEqProofs only [agR, Nat.reduceLeDiff, Nat.reduceSub, vaR, go_sem, ints, rows, rat, rats, ratsO, rtR, intsO, rowsO]
      simp -implicitDefEqProofs only [clR, Nat.reduceLeDiff, go_sem, evR, rat, opR, Nat.reduceBEq]
      exact .inl (by rw [tabR_ok hgb hb]; rfl)
    · refine CallW.pure (impl_tableOf_big g hg hgb hb) [] rfl Try.call100 ?_ (by first | trivial | simp [T.noSh, T.noShL, rat]) rfl ?_
      · simp -implicitDefEqProofs only [agR, Nat.reduceLeDiff, Nat.reduceSub, vaR, go_sem, ints, rows, rat, rats, ratsO, rtR, intsO, rowsO]
      simp -implicitDefEqProofs only [go_sem, evR, ints, rows, rat, rats]
      exact .inr ⟨3, tabR_big hgb hb, rfl⟩
  · refine CallW.pure (impl_tableOf_bad g hg hgb) [] rfl Try.call100 ?_ (by first | trivial | simp [T.noSh, T.noShL, rat]) rfl ?_
    · simp -implicitDefEqProofs only [agR, Nat.reduceLeDiff, Nat.reduceSub, vaR, go_sem, ints, rows, rat, rats, ratsO, rtR, intsO, rowsO]
    simp -implicitDefEqProofs only [go_sem, evR, ints, rows, rat, rats]
    exact .inr ⟨1, tabR_bad hgb, rfl⟩
theorem spec_l28Table_bad (g : Gm) (hgl : gameL g) (hg : isGameB g = false) : Pure Try.prog 97 [.agg [.sh 5 (chunk nodeC g.nd), .sh 1 (g.w.map ints), .sh 1 (g.v.map ints)]] (.tup [.v (.slice none 0 0), .i 1]) := by
  refine fun_spec_l28Table (by simp) ?_
  simp -implicitDefEqProofs only [go_sem, evR, ints, rows, rat, rats, c_spec_l28Table, opR, Nat.reduceBEq]
  have hq := isGame_t (spec_IsGame_ok g hgl)
  rw [hg] at hq
  refine CallW.pure hq [] rfl Try.call139 ?_ (by first | trivial | simp [T.noSh, T.noShL, rat]) rfl ?_
  · simp -implicitDefEqProofs only [agR, Nat.reduceLeDiff, Nat.reduceSub, vaR, go_sem, ints, rows, rat, rats, ratsO, rtR, intsO, rowsO]
  simp -implicitDefEqProofs only [go_sem, evR, ints, rows, rat, rats]
theorem spec_l28Table_big (g : Gm) (hgl : gameL g) (hg : isGameB g = true) (hb : ¬ (nPure g 0 ≤ 16 ∧ nPure g 1 ≤ 16)) : Pure Try.prog 97 [.agg [.sh 5 (chunk nodeC g.nd), .sh 1 (g.w.map ints), .sh 1 (g.v.map ints)]] (.tup [.v (.slice none 0 0), .i 3]) := by
  refine fun_spec_l28Table (by simp) ?_
  simp -implicitDefEqProofs only [go_sem, evR, ints, rows, rat, rats, c_spec_l28Table, opR, Nat.reduceBEq]
  have hq := isGame_t (spec_IsGame_ok g hgl)
  rw [hg] at hq
  refine CallW.pure hq [] rfl Try.call139 ?_ (by first | trivial | simp [T.noSh, T.noShL, rat]) rfl ?_
  · simp -implicitDefEqProofs only [agR, Nat.reduceLeDiff, Nat.reduceSub, vaR, go_sem, ints, rows, rat, rats, ratsO, rtR, intsO, rowsO]
  simp -implicitDefEqProofs only [go_sem, evR, ints, rows, rat, rats, opR, Nat.reduceBEq]
  have hq0 := spec_CountPure_ok g hgl hg 0 (.inl rfl)
  have hq1 := spec_CountPure_ok g hgl hg 1 (.inr rfl)
  refine CallW.pure hq0 [] rfl Try.call156 ?_ (by first | trivial | simp [T.noSh, T.noShL, rat]) rfl ?_
  · simp -implicitDefEqProofs only [agR, Nat.reduceLeDiff, Nat.reduceSub, vaR, go_sem, ints, rows, rat, rats, ratsO, rtR, intsO, rowsO]
  simp -implicitDefEqProofs only [go_sem, evR, ints, rows, rat, rats, opR, Nat.reduceBEq]
  refine CallW.pure hq1 [] rfl Try.call156 ?_ (by first | trivial | simp [T.noSh, T.noShL, rat]) rfl ?_
  · simp -implicitDefEqProofs only [agR, Nat.reduceLeDiff, Nat.reduceSub, vaR, go_sem, ints, rows, rat, rats, ratsO, rtR, intsO, rowsO]
  simp -implicitDefEqProofs only [go_sem, evR, ints, rows, rat, rats, opR, Nat.reduceBEq]
  refine ⟨fun a => ⟨fun b => ⟨fun c => ⟨fun _ => trivial, fun d => absurd ⟨cpR_le hg (.inl rfl) a c, cpR_le hg (.inr rfl) b d⟩ hb⟩, fun _ => trivial⟩, fun _ => trivial⟩, fun _ => trivial⟩
set_option maxRecDepth 20000 in
set_option maxHeartbeats 1000000 in
theorem spec_l28Table_ok (g : Gm) (hgl : gameL g) (hg : isGameB g = true) (hb0 : nPure g 0 ≤ 16) (hb1 : nPure g 1 ≤ 16) : Fun Try.prog 97 [] [.t (.agg [.sh 5 (chunk nodeC g.nd), .sh 1 (g.w.map ints), .sh 1 (g.v.map ints)])] fun o r => o = [] ∧ r = .tup [rowsO (tabM g), .i 0] := by
  obtain ⟨p1, p2, p3, p4, p5⟩ := isGameB_parts hg
  obtain ⟨t1, t2, t3, t4⟩ := isTreeB_spec p1
  obtain ⟨g1, g2, g3, g4, g5, g6, g7⟩ := game_unit hg
  have hdep := dep_t (spec_l20Depth_ok t2 (by omega) g.nd.length 0 (by omega) (by omega) (by omega))
  rw [g2] at hdep
  have hpw := pw_pos (dpt g)
  have n0 := nPure_pos hg ((.inl rfl) : (0 : Int) = 0 ∨ (0 : Int) = 1)
  have n1 := nPure_pos hg ((.inr rfl) : (1 : Int) = 0 ∨ (1 : Int) = 1)
  have hq0 := spec_CountPure_ok g hgl hg 0 (.inl rfl)
  have hq1 := spec_CountPure_ok g hgl hg 1 (.inr rfl)
  rw [cpR_small hg (.inl rfl) (by omega)] at hq0
  rw [cpR_small hg (.inr rfl) (by omega)] at hq1
  obtain ⟨n, hn0⟩ : ∃ n : Nat, nPure g 0 = n := ⟨_, (Int.toNat_of_nonneg (by omega)).symm⟩
  obtain ⟨m, hm0⟩ : ∃ n : Nat, nPure g 1 = n := ⟨_, (Int.toNat_of_nonneg (by omega)).symm⟩
  rw [hn0] at hq0 hb0 n0
  rw [hm0] at hq1 hb1 n1
  refine fun_spec_l28Table (by simp) ?_
  simp -implicitDefEqProofs only [go_sem, evR, ints, rows, rat, rats, c_spec_l28Table, opR, Nat.reduceBEq]
  have hq := isGame_t (spec_IsGame_ok g hgl)
  rw [hg] at hq
  refine CallW.pure hq [] rfl Try.call139 ?_ (by first | trivial | simp [T.noSh, T.noShL, rat]) rfl ?_
  · simp -implicitDefEqProofs only [agR, Nat.reduceLeDiff, Nat.reduceSub, vaR, go_sem, ints, rows, rat, rats, ratsO, rtR, intsO, rowsO]
  simp -implicitDefEqProofs only [go_sem, evR, ints, rows, rat, rats, opR, Nat.reduceBEq]
  refine CallW.pure hq0 [] rfl Try.call156 ?_ (by first | trivial | simp [T.noSh, T.noShL, rat]) rfl ?_
  · simp -implicitDefEqProofs only [agR, Nat.reduceLeDiff, Nat.reduceSub, vaR, go_sem, ints, rows, rat, rats, ratsO, rtR, intsO, rowsO]
  simp -implicitDefEqProofs only [go_sem, evR, ints, rows, rat, rats, opR, Nat.reduceBEq]
  refine CallW.pure hq1 [] rfl Try.call156 ?_ (by first | trivial | simp [T.noSh, T.noShL, rat]) rfl ?_
  · simp -implicitDefEqProofs only [agR, Nat.reduceLeDiff, Nat.reduceSub, vaR, go_sem, ints, rows, rat, rats, ratsO, rtR, intsO, rowsO]
  simp -implicitDefEqProofs only [go_sem, evR, ints, rows, rat, rats, bne_self_eq_false, decide_eq_false (show ¬ (n : Int) > 16 by omega), decide_eq_false (show ¬ (m : Int) > 16 by omega), opR, Nat.reduceBEq]
  refine ⟨fun h => absurd h (by omega), fun _ => ?_⟩
  refine CallW.pure hdep [] rfl Try.call158 ?_ (by first | trivial | simp [T.noSh, T.noShL, rat]) rfl ?_
  · simp -implicitDefEqProofs only [agR, Nat.reduceLeDiff, Nat.reduceSub, vaR, go_sem, ints, rows, rat, rats, ratsO, rtR, intsO, rowsO]
  simp -implicitDefEqProofs only [go_sem, evR, ints, rows, rat, rats]
  refine CallW.pure (spec_l23Power_ok (dpt g) (by omega)) [] rfl Try.call157 ?_ (by first | trivial | simp [T.noSh, T.noShL, rat]) rfl ?_
  · simp -implicitDefEqProofs only [agR, Nat.reduceLeDiff, Nat.reduceSub, vaR, go_sem, ints, rows, rat, rats, ratsO, rtR, intsO, rowsO]
  simp -implicitDefEqProofs only [go_sem, evR, ints, rows, rat, rats]
  refine SemC.loopR (σ := Nat) (fun i => St.of [(1, .own 1), (4, .t (.i n)), (6, .t (.i m)), (8, .t (.i (pw (dpt g)))), (9, .own 98), (10, .t (.i i))] [(1, .box [nodes g.nd, rows g.w, rows g.v]), (98, rowsO ((tabM g).take i))]) (fun i => i ≤ n) (fun i => n - i) 0 (Weak.of _ _ [some 1, some 48] (by simp) (by simp) ?_ ?_) (by omega) fun i hi R hn hr he => ?_
  · simp -implicitDefEqProofs only [ints, rows, Nat.reduceBEq, wkR, Nat.reduceEqDiff, ↓reduceIte, wrR, nodes]
  · exact ⟨⟨_, rfl, .refl _⟩, rfl, ⟨_, rfl, .refl _⟩, rfl, trivial⟩
  rcases Nat.lt_or_ge i n with h9 | h9
  · have hp := spec_PureStrategy_ok g hgl hg 0 (.inl rfl) i (by omega) (by omega) (by omega)
    simp -implicitDefEqProofs only [go_sem, evR, ints, rows, rat, rats, nodes, decide_eq_true (show (i : Int) < (n : Int) by omega), opR, Nat.reduceBEq]
    refine CallW.res hp [] rfl Try.call159 ?_ (.inl rfl) ?_
    · simp -implicitDefEqProofs only [agR, Nat.reduceLeDiff, Nat.reduceSub, vaR, go_sem, ints, rows, rat, rats, ratsO, rtR, intsO, rowsO]
    simp -implicitDefEqProofs only [clR, Nat.reduceLeDiff, go_sem, evR, rat, opR, Nat.reduceBEq]
    refine SemC.loopR (σ := Nat) (fun k => St.of [(1, .own 1), (4, .t (.i n)), (6, .t (.i m)), (8, .t (.i (pw (dpt g)))), (9, .own 98), (10, .t (.i i)), (11, .t (.pin [.i 0, rows (pureM g 0 i)] 0)), (13, .own 99), (14, .t (.i k))] [(1, .box [nodes g.nd, rows g.w, rows g.v]), (98, rowsO ((tabM g).take i)), (99, intsO ((tabRow g m i).take k))]) (fun k => k ≤ m) (fun k => m - k) 0 (Weak.trans (Weak.share 11 rfl) (Weak.of _ _ [some 1, some 98, some 60] (by simp) (by simp) ?_ ?_)) (by omega) fun k hk R2 hn2 hr2 he2 => ?_
    · simp -implicitDefEqProofs only [ints, rows, Nat.reduceBEq, wkR, Nat.reduceEqDiff, ↓reduceIte, wrR, shareA, T.toSh, T.toShL, toShL_intsO, nodes]
    · exact ⟨⟨_, rfl, .refl _⟩, rfl, ⟨_, rfl, .refl _⟩, rfl, ⟨_, rfl, .refl _⟩, rfl, trivial⟩
    rcases Nat.lt_or_ge k m with h8 | h8
    · have hga := vb_t (spec_l23Number_ok (s := (0, pureM g 0 i)) (t := (1, pureM g 1 k)) hg (pureM_parts hg (.inl rfl) i) (pureM_parts hg (.inr rfl) k))
      have hta := tabE_abs hg i k
      have hte : (gnum g (pureM g 0 i) (pureM g 1 k)).tdiv (pw (dpt g)) = tabE g i k := rfl
      have hltr : ((tabRow g m i).take k).length = k := by rw [List.length_take, tabRow_len]; omega
      have hp := spec_PureStrategy_ok g hgl hg 1 (.inr rfl) k (by omega) (by omega) (by omega)
      simp -implicitDefEqProofs only [go_sem, evR, ints, rows, rat, rats, nodes, intsO, decide_eq_true (show (k : Int) < (m : Int) by omega), opR, Nat.reduceBEq]
      refine CallW.res hp [] rfl Try.call159 ?_ (.inl rfl) ?_
      · simp -implicitDefEqProofs only [agR, Nat.reduceLeDiff, Nat.reduceSub, vaR, go_sem, ints, rows, rat, rats, ratsO, rtR, intsO, rowsO]
      simp -implicitDefEqProofs only [clR, Nat.reduceLeDiff, go_sem, evR, rat, opR, Nat.reduceBEq]
      refine CallW.pure hga [76002] rfl Try.call125 ?_ (by first | trivial | simp [T.noSh, T.noShL, rat]) rfl ?_
      · simp -implicitDefEqProofs only [agR, Nat.reduceLeDiff, Nat.reduceSub, vaR, go_sem, ints, rows, rat, rats, ratsO, rtR, intsO, rowsO]
      simp -implicitDefEqProofs only [go_sem, evR, ints, rows, rat, rats, hte, wrap64 (n := tabE g i k) (by omega) (by omega), List.length_map, hltr, opR, Nat.reduceBEq]
      refine ⟨by omega, by omega, hn2 _ (k + 1) (Weak.of _ _ [some 1, some 98, some 80] (by simp) (by simp) ?_ ?_) (by omega) (by omega)⟩
      · simp -implicitDefEqProofs only [ints, rows, Nat.reduceBEq, wkR, Nat.reduceEqDiff, ↓reduceIte, wrR, nodes, next64 h8 (by omega)]
      · refine ⟨⟨_, rfl, .refl _⟩, rfl, ⟨_, rfl, .refl _⟩, rfl, ⟨_, rfl, ?_⟩, rfl, trivial⟩
        rw [tabRow_take h8, intsO, List.map_append]; exact .refl _
    · rw [show k = m by omega, List.take_of_length_le (show (tabRow g m i).length ≤ m by rw [tabRow_len]; omega)]
      simp -implicitDefEqProofs only [go_sem, evR, ints, rows, rat, rats, nodes, rowsO, decide_eq_false (show ¬ (m : Int) < (m : Int) by omega), opR, Nat.reduceBEq]
      refine he2 _ _ ?_
      have hltm : ((tabM g).take i).length = i := by rw [List.length_take, tabM_len hn0]; omega
      simp -implicitDefEqProofs only [go_sem, evR, ints, rows, rat, rats, rowsO, intsO, List.length_map, hltm, opR, Nat.reduceBEq]
      refine ⟨by omega, hn _ (i + 1) (Weak.of _ _ [some 1, some 84] (by simp) (by simp) ?_ ?_) (by omega) (by omega)⟩
      · simp -implicitDefEqProofs only [ints, rows, Nat.reduceBEq, wkR, Nat.reduceEqDiff, ↓reduceIte, wrR, nodes, next64 h9 (by omega)]
      · refine ⟨⟨_, rfl, .refl _⟩, rfl, ⟨_, rfl, ?_⟩, rfl, trivial⟩
        rw [tabM_take hn0 hm0 h9, rowsO, List.map_append, List.map_cons, List.map_nil, intsO]; exact .refl _
  · rw [show i = n by omega]
    simp -implicitDefEqProofs only [go_sem, evR, ints, rows, rat, rats, nodes, rowsO, decide_eq_false (show ¬ (n : Int) < (n : Int) by omega), opR, Nat.reduceBEq]
    refine he _ _ ?_
    simp -implicitDefEqProofs only [go_sem, evR, ints, rows, rat, rats, rowsO, opR, Nat.reduceBEq]
    rw [List.take_of_length_le (by rw [tabM_len hn0]; omega)]
theorem spec_TableOf_ok (g : Gm) (hg : gameL g) : Fun Try.prog 21 [] [.t (gameT g)] fun o r => o = [] ∧ r = twO (tabR g) := by
  refine twLe ?_
  refine fun_spec_TableOf (by simp) ?_
  simp -implicitDefEqProofs only [go_sem, evR, ints, rows, rat, rats, c_spec_TableOf, gameT, nodes]
  rcases Bool.eq_false_or_eq_true (isGameB g) with hgb | hgb
  · by_cases hb : nPure g 0 ≤ 16 ∧ nPure g 1 ≤ 16
    · have hq := spec_l28Table_ok g hg hgb hb.1 hb.2
      simp only [rowsO] at hq
      refine CallW.res hq [] rfl Try.call97 ?_ (.inl rfl) ?_
      · simp -implicitDefEqProofs only [agR, Nat.reduceLeDiff, Nat.reduceSub, vaR, go_sem, ints, rows, rat, rats, ratsO, rtR, intsO, rowsO]
      simp -implicitDefEqProofs only [clR, Nat.reduceLeDiff, go_sem, evR, rat, opR, Nat.reduceBEq]
      exact .inl (by rw [tabR_ok hgb hb]; rfl)
    · refine CallW.pure (spec_l28Table_big g hg hgb hb) [] rfl Try.call97 ?_ (by first | trivial | simp [T.noSh, T.noShL, rat]) rfl ?_
      · simp -implicitDefEqProofs only [agR, Nat.reduceLeDiff, Nat.reduceSub, vaR, go_sem, ints, rows, rat, rats, ratsO, rtR, intsO, rowsO]
      simp -implicitDefEqProofs only [go_sem, evR, ints, rows, rat, rats]
      exact .inr ⟨3, tabR_big hgb hb, rfl⟩
  · refine CallW.pure (spec_l28Table_bad g hg hgb) [] rfl Try.call97 ?_ (by first | trivial | simp [T.noSh, T.noShL, rat]) rfl ?_
    · simp -implicitDefEqProofs only [agR, Nat.reduceLeDiff, Nat.reduceSub, vaR, go_sem, ints, rows, rat, rats, ratsO, rtR, intsO, rowsO]
    simp -implicitDefEqProofs only [go_sem, evR, ints, rows, rat, rats]
    exact .inr ⟨1, tabR_bad hgb, rfl⟩
end
end Go.Ab

/- Functions in compact form, with hints. -/
set_option linter.unusedVariables false
namespace Go.Ab
open Go.Proofs

def c_impl_PureBounds_h : CC :=
 (.seq (.reg [.o (.box 1 (sl 0)),
 .o (.move 2 (ci 0)),
 .o (.move 3 (ci 0)),
 .o (.move 4 (ci 0))])
 ((.seq (.reg [.o (.loadN 15 3 (sl 1)),
 .o (.call (some 16) (cf 100) [(sl 15)]),
 .o (.move 14 (sl 16)),
 .o (.extract 17 (sl 14) 0),
 .o (.extract 18 (sl 14) 1),
 .o (.move 5 (sl 17)),
 .o (.move 6 (sl 18))])
 ((.seq (.seq (.reg [.o (.move 19 (sl 6)),
 .o (.bin 20 .neq (sl 19) (ci 0))])
 ((.cond (sl 20) (.seq (.reg [.o (.move 21 (sl 6)),
 .o (.move 2 (ci 0)),
 .o (.move 3 (ci 0)),
 .o (.move 4 (sl 21))])
 (.ret))
 .skip)))
 ((.seq (.weak (.reg [.o (.move 22 (sl 5)),
 .o (.idx 23 1 (sl 22) (ci 0)),
 .o (.load1 24 (sl 23)),
 .o (.call (some 25) (cf 105) [(sl 24)]),
 .o (.move 7 (sl 25)),
 .o (.move 8 (ci 0))]))
 ((.seq (.seq (.reg [.o (.move 26 (sl 5)),
 .o (.lenS 27 (sl 26)),
 .o (.move 28 (ci 0))])
 ((.block 0 (.loop (.seq (.reg [.o (.bin 29 .lss (sl 28) (sl 27))])
 ((.seq (.cond (sl 29) .skip
 (.exit 0))
 ((.seq (.block 1 (.seq (.reg [.o (.idx 30 1 (sl 26) (sl 28)),
 .o (.load1 31 (sl 30)),
 .o (.move 10 (sl 31))])
 ((.reg [.o (.move 32 (sl 7)),
 .o (.move 33 (sl 10)),
 .o (.call (some 34) (cf 105) [(sl 33)]),
 .o (.mm 35 true (sl 32) (sl 34)),
 .o (.move 7 (sl 35))]))))
 ((.reg [.o (.bin 36 .add (sl 28) (ci 1)),
 .o (.move 28 (sl 36))])))))))))))
 ((.seq (.seq (.reg [.o (.move 37 (sl 5)),
 .o (.call (some 38) (cf 104) [(sl 37)]),
 .o (.lenS 39 (sl 38)),
 .o (.move 40 (ci 0))])
 ((.block 2 (.loop (.seq (.reg [.o (.bin 41 .lss (sl 40) (sl 39))])
 ((.seq (.cond (sl 41) .skip
 (.exit 2))
 ((.seq (.block 3 (.seq (.reg [.o (.move 42 (sl 40)),
 .o (.idx 43 1 (sl 38) (sl 40)),
 .o (.load1 44 (sl 43)),
 .o (.move 11 (sl 42)),
 .o (.move 12 (sl 44))])
 ((.seq (.reg [.o (.move 45 (sl 12)),
 .o (.call (some 46) (cf 106) [(sl 45)]),
 .o (.move 13 (sl 46))])
 ((.seq (.reg [.o (.move 47 (sl 11)),
 .o (.bin 48 .eql (sl 47) (ci 0)),
 .o (.move 49 (sl 48)),
 .g 49 false (some 50) (.move 50 (sl 13)),
 .g 49 false (some 51) (.move 51 (sl 8)),
 .g 49 false (some 52) (.bin 52 .lss (sl 50) (sl 51)),
 .o (.pick 53 (sl 49) (cb true) (sl 52))])
 ((.cond (sl 53) (.reg [.o (.move 54 (sl 13)),
 .o (.move 8 (sl 54))])
 .skip))))))))
 ((.reg [.o (.bin 55 .add (sl 40) (ci 1)),
 .o (.move 40 (sl 55))])))))))))))
 ((.seq (.reg [.o (.move 56 (sl 7)),
 .o (.move 57 (sl 8)),
 .o (.move 2 (sl 56)),
 .o (.move 3 (sl 57)),
 .o (.move 4 (ci 0))])
 (.ret))))))))))))))
theorem fun_impl_PureBounds_h {rin : List T} {args : List A} {Q : List T → T → Prop} (ha : args.length ≤ 58) (h : cW Try.prog 58 c_impl_PureBounds_h (retP Try.prog [.tmp 2, .tmp 3, .tmp 4] rin.length Q) (St.of (enum 0 args) (enum 1000000000 rin))) :
    Fun Try.prog 32 rin args Q :=
  Fun.of (H := ⟨[], [4]⟩) Try.func32 rfl rfl rfl (by kernel_rfl) ha (by decide) h

end Go.Ab

/- Contracts: bounds and equilibria of pure strategies. -/
set_option linter.unusedSimpArgs false
set_option linter.unusedVariables false
namespace Go.Ab
open Go.Proofs
def pbR (g : Gm) : Int × Int × Int := if (tabR g).2 = 0 then (lowT (tabM g), highT (tabM g) (nPure g 1).toNat, 0) else (0, 0, (tabR g).2)
def peR (g : Gm) : Int × Int × Int := if (tabR g).2 = 0 then saddle (tabM g) (nPure g 1).toNat else (0, 0, (tabR g).2)
theorem min_step {l : List Int} {k : Nat} {x : Int} (h : l[k]? = some x) : min (minL (l.take (max k 1))) x = minL (l.take (k + 1)) := by
  rcases Nat.eq_zero_or_pos k with rfl | hk
  · cases l with
    | nil => simp at h
    | cons y l => simp at h; subst h; simp [minL]
  · rw [Nat.max_eq_left hk, take_snoc h, minL_snoc]
    have := (List.getElem?_eq_some_iff.1 h).1
    exact fun e => by have := congrArg List.length e; rw [List.length_take, List.length_nil] at this; omega
theorem max_step {l : List Int} {k : Nat} {x : Int} (h : l[k]? = some x) : max (maxL (l.take (max k 1))) x = maxL (l.take (k + 1)) := by
  rcases Nat.eq_zero_or_pos k with rfl | hk
  · cases l with
    | nil => simp at h
    | cons y l => simp at h; subst h; simp [maxL]
  · rw [Nat.max_eq_left hk, take_snoc h, maxL_snoc]
    have := (List.getElem?_eq_some_iff.1 h).1
    exact fun e => by have := congrArg List.length e; rw [List.length_take, List.length_nil] at this; omega
theorem take_one {l : List Int} {x : Int} (h : l[0]? = some x) : minL (l.take (max 0 1)) = x ∧ maxL (l.take (max 0 1)) = x := by
  cases l with
  | nil => simp at h
  | cons y l => simp at h; subst h; simp [minL, maxL]
theorem max_succ (k : Nat) : max (k + 1) 1 = k + 1 := by omega
theorem take_all1 {l : List Int} {k : Nat} (h : l.length = k) (h1 : 1 ≤ k) : l.take (max k 1) = l := List.take_of_length_le (by omega)
def cmA (m : List (List Int)) (c i : Nat) : List Int := (List.range c).map fun k => maxL ((colOf m k).take (max i 1))
theorem cmA_length (m : List (List Int)) (c i : Nat) : (cmA m c i).length = c := by simp [cmA]
theorem cmA_get {m : List (List Int)} {c i k : Nat} (h : k < c) : (cmA m c i)[k]? = some (maxL ((colOf m k).take (max i 1))) := by simp [cmA, h]
theorem colOf_get {m : List (List Int)} {i k : Nat} {r : List Int} {x : Int} (h : m[i]? = some r) (h' : r[k]? = some x) : (colOf m k)[i]? = some x := by
  rw [colOf, List.getElem?_map, h, Option.map_some, List.getD_eq_getElem?_getD, h']; rfl
theorem colOf_len (m : List (List Int)) (k : Nat) : (colOf m k).length = m.length := by simp [colOf]
theorem cmA_zero {m : List (List Int)} {c : Nat} {r : List Int} (hr : rect m c) (h : m[0]? = some r) : cmA m c 0 = r := by
  have hl := hr r (List.mem_of_getElem? h)
  refine List.ext_getElem? fun k => ?_
  rcases Nat.lt_or_ge k c with hk | hk
  · rw [cmA_get hk, List.getElem?_eq_getElem (by omega), (take_one (colOf_get h (List.getElem?_eq_getElem (by omega)))).2]
  · rw [List.getElem?_eq_none (by rw [cmA_length]; exact hk), List.getElem?_eq_none (by omega)]
theorem cmA_all {m : List (List Int)} {c : Nat} (h1 : 1 ≤ m.length) : cmA m c m.length = (tr m c).map maxL := by
  rw [cmA, tr, List.map_map]
  refine List.map_congr_left fun k _ => ?_
  rw [take_all1 (colOf_len m k) h1]; rfl
theorem cmA_next {m : List (List Int)} {c i k : Nat} {r : List Int} {x : Int} (hk : k < c) (h : m[i]? = some r) (h' : r[k]? = some x) : (cmA m c (i + 1))[k]? = some (max (maxL ((colOf m k).take (max i 1))) x) := by
  rw [cmA_get hk, max_succ, max_step (colOf_get h h')]
section
attribute [-go_sem] load1C load1V fldC lenC idxC loadNV nilCheckW
set_option maxRecDepth 20000 in
theorem spec_l28Extremes_ok (m : List (List Int)) (c : Nat) (h1 : 1 ≤ m.length) (h2 : m.length ≤ 16) (hc1 : 1 ≤ c) (hc2 : c ≤ 16) (hr : rect m c) : Fun Try.prog 103 [] [.t (rows m)] fun o r => o = [] ∧ r = .tup [intsO (m.map minL), intsO ((tr m c).map maxL)] := by
  obtain ⟨r0, h0⟩ : ∃ r, m[0]? = some r := ⟨_, List.getElem?_eq_getElem (by omega)⟩
  have hl0 := hr r0 (List.mem_of_getElem? h0)
  have hrl : (m.map minL).length = m.length := by simp
  refine fun_spec_l28Extremes (by simp) ?_
  simp -implicitDefEqProofs only [go_sem, evR, ints, rows, rat, rats, c_spec_l28Extremes, List.getElem?_map, h0, Option.map_some, Option.getD_some, List.length_map]
  refine ⟨by omega, by omega, ?_⟩
  have hp := spec_l01Own_ok r0 (by omega)
  simp only [intsO, ints] at hp
  refine CallW.res hp [] rfl Try.call167 ?_ (.inl rfl) ?_
  · simp -implicitDefEqProofs only [agR, Nat.reduceLeDiff, Nat.reduceSub, vaR, go_sem, ints, rows, rat, rats, ratsO, rtR, intsO, rowsO]
  simp -implicitDefEqProofs only [clR, Nat.reduceLeDiff, go_sem, evR, rat]
  refine SemC.loopR (σ := Nat) (fun i => St.of [(0, .t (rows m)), (4, .own 97), (5, .own 98), (6, .t (.i i))] [(97, intsO ((m.map minL).take i)), (98, intsO (cmA m c i))]) (fun i => i ≤ m.length) (fun i => m.length - i) 0 (Weak.of _ _ [some 9, some 13] (by simp) (by simp) ?_ ?_) (by omega) fun i hi R hn hr1 he => ?_
  · simp -implicitDefEqProofs only [ints, rows, Nat.reduceBEq, wkR, Nat.reduceEqDiff, ↓reduceIte, wrR]
  · refine ⟨⟨_, rfl, .refl _⟩, rfl, ⟨_, rfl, ?_⟩, rfl, trivial⟩
    rw [cmA_zero hr h0, intsO]; exact .refl _
  rcases Nat.lt_or_ge i m.length with h9 | h9
  · obtain ⟨r, hrow⟩ : ∃ r, m[i]? = some r := ⟨_, List.getElem?_eq_getElem h9⟩
    have hlr := hr r (List.mem_of_getElem? hrow)
    obtain ⟨x0, hx0⟩ : ∃ x, r[0]? = some x := ⟨_, List.getElem?_eq_getElem (by omega)⟩
    simp -implicitDefEqProofs only [go_sem, evR, ints, rows, rat, rats, hrow, hx0, decide_eq_true (show (i : Int) < (m.length : Int) by omega), List.getElem?_map, Option.map_some, Option.getD_some, List.length_map]
    repeat (first | refine ⟨by omega, ?_⟩ | refine ⟨by rw [nd_len]; omega, ?_⟩)
    have hll : (cmA m c (i + 1)).length = (cmA m c i).length := by rw [cmA_length, cmA_length]
    have hlc := cmA_length m c i
    refine SemC.loopR (σ := Nat) (fun k => St.of [(0, .t (rows m)), (4, .own 97), (5, .own 98), (6, .t (.i i)), (7, .t (.i (minL (r.take (max k 1))))), (8, .t (.i k))] [(97, intsO ((m.map minL).take i)), (98, intsO (mixL (cmA m c (i + 1)) (cmA m c i) k))]) (fun k => k ≤ c) (fun k => c - k) 0 (Weak.of _ _ [some 97, some 98] (by simp) (by simp) ?_ ?_) (by omega) fun k hk R2 hn2 hr2 he2 => ?_
    · simp -implicitDefEqProofs only [ints, rows, Nat.reduceBEq, wkR, Nat.reduceEqDiff, ↓reduceIte, wrR, (take_one hx0).1]
    · refine ⟨⟨_, rfl, .refl _⟩, rfl, ⟨_, rfl, ?_⟩, rfl, trivial⟩
      rw [mix_zero]; exact .refl _
    rcases Nat.lt_or_ge k c with h8 | h8
    · obtain ⟨x, hx⟩ : ∃ x, r[k]? = some x := ⟨_, List.getElem?_eq_getElem (by omega)⟩
      have hg1 : (mixL (cmA m c (i + 1)) (cmA m c i) k)[k]? = some (maxL ((colOf m k).take (max i 1))) := by rw [mix_get hll (by omega), cmA_get h8]
      have hml : (mixL (cmA m c (i + 1)) (cmA m c i) k).length = c := by rw [mix_length hll (by omega), hlc]
      have hnx := cmA_next h8 hrow hx
      have hmn := min_step hx
      simp -implicitDefEqProofs only [go_sem, evR, ints, rows, rat, rats, intsO, hrow, hx, hlr, hg1, hml, decide_eq_true (show (k : Int) < (c : Int) by omega), List.getElem?_map, Option.map_some, Option.getD_some, List.length_map]
      repeat (first | refine ⟨by omega, ?_⟩ | refine ⟨by rw [nd_len]; omega, ?_⟩)
      refine hn2 _ (k + 1) (Weak.of _ _ [some 97, some 98] (by simp) (by simp) ?_ ?_) (by omega) (by omega)
      · simp -implicitDefEqProofs only [ints, rows, Nat.reduceBEq, wkR, Nat.reduceEqDiff, ↓reduceIte, wrR, next64 h8 (by omega), hmn, max_succ]
      · refine ⟨⟨_, rfl, .refl _⟩, rfl, ⟨_, rfl, ?_⟩, rfl, trivial⟩
        rw [← mix_set hll hnx, intsO, List.map_set]; exact .refl _
    · have hkc : k = c := by omega
      have hall : mixL (cmA m c (i + 1)) (cmA m c i) k = cmA m c (i + 1) := by
        have := mix_all hll
        rw [hlc] at this
        rw [hkc]; exact this
      have hrk : r.take (max k 1) = r := take_all1 (by omega) (by omega)
      rw [hall, hrk]
      simp -implicitDefEqProofs only [go_sem, evR, ints, rows, rat, rats, intsO, hrow, hlr, decide_eq_false (show ¬ (k : Int) < (c : Int) by omega), List.getElem?_map, Option.map_some, Option.getD_some, List.length_map]
      repeat (first | refine ⟨by omega, ?_⟩ | refine ⟨by rw [nd_len]; omega, ?_⟩)
      refine he2 _ _ ?_
      have hltm : ((m.map minL).take i).length = i := by rw [List.length_take, hrl]; omega
      simp -implicitDefEqProofs only [go_sem, evR, ints, rows, rat, rats, intsO, List.length_map, hltm]
      refine ⟨by omega, hn _ (i + 1) (Weak.of _ _ [some 62, some 98] (by simp) (by simp) ?_ ?_) (by omega) (by omega)⟩
      · simp -implicitDefEqProofs only [ints, rows, Nat.reduceBEq, wkR, Nat.reduceEqDiff, ↓reduceIte, wrR, next64 h9 (by omega)]
      · refine ⟨⟨_, rfl, ?_⟩, rfl, ⟨_, rfl, .refl _⟩, rfl, trivial⟩
        rw [take_snoc (show (m.map minL)[i]? = some (minL r) by rw [List.getElem?_map, hrow]; rfl), intsO, List.map_append]; exact .refl _
  · have hil : i = m.length := by omega
    rw [show (m.map minL).take i = m.map minL from List.take_of_length_le (by omega), hil, cmA_all h1]
    simp -implicitDefEqProofs only [go_sem, evR, ints, rows, rat, rats, intsO, decide_eq_false (show ¬ (m.length : Int) < (m.length : Int) by omega), List.length_map]
    refine he _ _ ?_
    simp -implicitDefEqProofs only [go_sem, evR, ints, rows, rat, rats, intsO]
theorem pbR_ok {g : Gm} (hg : isGameB g = true) (hb : nPure g 0 ≤ 16 ∧ nPure g 1 ≤ 16) : pbR g = (maxL ((tabM g).map minL), minL ((tr (tabM g) (nPure g 1).toNat).map maxL), 0) := by rw [pbR, tabR_ok hg hb]; rfl
theorem pbR_no {g : Gm} {c : Int} (h : tabR g = ([], c)) (hc : c ≠ 0) : pbR g = (0, 0, c) := by rw [pbR, h]; exact if_neg hc
theorem peR_ok {g : Gm} (hg : isGameB g = true) (hb : nPure g 0 ≤ 16 ∧ nPure g 1 ≤ 16) : peR g = saddle (tabM g) (nPure g 1).toNat := by rw [peR, tabR_ok hg hb]; rfl
theorem peR_no {g : Gm} {c : Int} (h : tabR g = ([], c)) (hc : c ≠ 0) : peR g = (0, 0, c) := by rw [peR, h]; exact if_neg hc
set_option maxRecDepth 20000 in
theorem spec_PureBounds_ok (g : Gm) (hg : gameL g) : Pure Try.prog 31 [gameT g] (tr3 (pbR g)) := by
  refine fun_spec_PureBounds (by simp) ?_
  simp -implicitDefEqProofs only [go_sem, evR, ints, rows, rat, rats, c_spec_PureBounds, gameT, nodes]
  rcases Bool.eq_false_or_eq_true (isGameB g) with hgb | hgb
  · by_cases hb : nPure g 0 ≤ 16 ∧ nPure g 1 ≤ 16
    · have hq := spec_l28Table_ok g hg hgb hb.1 hb.2
      simp only [rowsO] at hq
      refine CallW.res hq [] rfl Try.call97 ?_ (.inl rfl) ?_
      · simp -implicitDefEqProofs only [agR, Nat.reduceLeDiff, Nat.reduceSub, vaR, go_sem, ints, rows, rat, rats, ratsO, rtR, intsO, rowsO]
      simp -implicitDefEqProofs only [clR, Nat.reduceLeDiff, go_sem, evR, rat, bne_self_eq_false, opR, Nat.reduceBEq]
      obtain ⟨s1, s2, s3, s4, s5, s6⟩ := tabM_shape hgb hb
      have hp := spec_l28Extremes_ok (tabM g) (nPure g 1).toNat s1 s2 s4 s5 s3
      rw [pbR_ok hgb hb]
      have hR : ((tabM g).map minL).length = (tabM g).length := by simp
      have hC : ((tr (tabM g) (nPure g 1).toNat).map maxL).length = (nPure g 1).toNat := by simp [tr]
      generalize (tabM g).map minL = R at hp hR ⊢
      generalize (tr (tabM g) (nPure g 1).toNat).map maxL = C at hp hC ⊢
      simp only [rows, intsO] at hp
      refine CallW.res hp [15] rfl Try.call103 ?_ (.inr ⟨intsO_noSh _, intsO_noSh _, trivial⟩) ?_
      · simp -implicitDefEqProofs only [agR, Nat.reduceLeDiff, Nat.reduceSub, vaR, go_sem, ints, rows, rat, rats, ratsO, rtR, intsO, rowsO]
      simp -implicitDefEqProofs only [clR, Nat.reduceLeDiff, go_sem, evR, rat, intsO, opR, Nat.reduceBEq]
      obtain ⟨r0, hr0⟩ : ∃ x, R[0]? = some x := ⟨_, List.getElem?_eq_getElem (by omega)⟩
      obtain ⟨c0, hc0⟩ : ∃ x, C[0]? = some x := ⟨_, List.getElem?_eq_getElem (by omega)⟩
      simp -implicitDefEqProofs only [go_sem, evR, ints, rows, rat, rats, hr0, hc0, Option.map_some, Option.getD_some]
      repeat (first | refine ⟨by omega, ?_⟩ | refine ⟨by rw [nd_len]; omega, ?_⟩)
      refine SemC.loopR (σ := Nat) (fun i => St.of [(7, .t (ints R)), (8, .t (ints C)), (9, .t (.i (maxL (R.take (max i 1))))), (10, .t (.i c0)), (11, .t (.i i))] []) (fun i => i ≤ R.length) (fun i => R.length - i) 0 (Weak.trans (Weak.share 23 rfl) (Weak.trans (Weak.share 24001 rfl) (Weak.of _ _ [] (by simp) (by simp) ?_ ?_))) (by omega) fun i hi Q hn hr1 he => ?_
      · simp -implicitDefEqProofs only [ints, rows, Nat.reduceBEq, wkR, Nat.reduceEqDiff, ↓reduceIte, wrR, shareA, T.toSh, toShL_ints, (take_one hr0).2]
      · exact trivial
      rcases Nat.lt_or_ge i R.length with h9 | h9
      · obtain ⟨x, hx⟩ : ∃ x, R[i]? = some x := ⟨_, List.getElem?_eq_getElem h9⟩
        have hmx := max_step hx
        simp -implicitDefEqProofs only [go_sem, evR, ints, rows, rat, rats, hx, decide_eq_true (show (i : Int) < (R.length : Int) by omega), List.getElem?_map, Option.map_some, Option.getD_some, List.length_map]
        repeat (first | refine ⟨by omega, ?_⟩ | refine ⟨by rw [nd_len]; omega, ?_⟩)
        refine hn _ (i + 1) (Weak.of _ _ [] (by simp) (by simp) ?_ ?_) (by omega) (by omega)
        · simp -implicitDefEqProofs only [ints, rows, Nat.reduceBEq, wkR, Nat.reduceEqDiff, ↓reduceIte, wrR, next64 h9 (by omega), hmx, max_succ]
        · exact trivial
      · have hil : i = R.length := by omega
        rw [show R.take (max i 1) = R from take_all1 (by omega) (by omega)]
        simp -implicitDefEqProofs only [go_sem, evR, ints, rows, rat, rats, hil, decide_eq_false (show ¬ (R.length : Int) < (R.length : Int) by omega), List.length_map]
        refine he _ _ ?_
        simp -implicitDefEqProofs only [go_sem, evR, ints, rows, rat, rats]
        refine SemC.loopR (σ := Nat) (fun i => St.of [(8, .t (ints C)), (9, .t (.i (maxL R))), (10, .t (.i (minL (C.take (max i 1))))), (12, .t (.i i))] []) (fun i => i ≤ C.length) (fun i => C.length - i) 0 (Weak.of _ _ [] (by simp) (by simp) ?_ ?_) (by omega) fun i hi Q hn hr1 he => ?_
        · simp -implicitDefEqProofs only [ints, rows, Nat.reduceBEq, wkR, Nat.reduceEqDiff, ↓reduceIte, wrR, (take_one hc0).1]
        · exact trivial
        rcases Nat.lt_or_ge i C.length with h9 | h9
        · obtain ⟨x, hx⟩ : ∃ x, C[i]? = some x := ⟨_, List.getElem?_eq_getElem h9⟩
          have hmx := min_step hx
          simp -implicitDefEqProofs only [go_sem, evR, ints, rows, rat, rats, hx, decide_eq_true (show (i : Int) < (C.length : Int) by omega), List.getElem?_map, Option.map_some, Option.getD_some, List.length_map]
          repeat (first | refine ⟨by omega, ?_⟩ | refine ⟨by rw [nd_len]; omega, ?_⟩)
          refine hn _ (i + 1) (Weak.of _ _ [] (by simp) (by simp) ?_ ?_) (by omega) (by omega)
          · simp -implicitDefEqProofs only [ints, rows, Nat.reduceBEq, wkR, Nat.reduceEqDiff, ↓reduceIte, wrR, next64 h9 (by omega), hmx, max_succ]
          · exact trivial
        · have hil : i = C.length := by omega
          rw [show C.take (max i 1) = C from take_all1 (by omega) (by omega)]
          simp -implicitDefEqProofs only [go_sem, evR, ints, rows, rat, rats, hil, decide_eq_false (show ¬ (C.length : Int) < (C.length : Int) by omega), List.length_map]
          refine he _ _ ?_
          simp -implicitDefEqProofs only [go_sem, evR, ints, rows, rat, rats, tr3]
    · refine CallW.pure (spec_l28Table_big g hg hgb hb) [] rfl Try.call97 ?_ (by first | trivial | simp [T.noSh, T.noShL, rat]) rfl ?_
      · simp -implicitDefEqProofs only [agR, Nat.reduceLeDiff, Nat.reduceSub, vaR, go_sem, ints, rows, rat, rats, ratsO, rtR, intsO, rowsO]
      simp -implicitDefEqProofs only [go_sem, evR, ints, rows, rat, rats]
      rw [pbR_no (tabR_big hgb hb) (by decide)]
      exact ⟨fun _ => rfl, fun h => absurd h (by decide)⟩
  · refine CallW.pure (spec_l28Table_bad g hg hgb) [] rfl Try.call97 ?_ (by first | trivial | simp [T.noSh, T.noShL, rat]) rfl ?_
    · simp -implicitDefEqProofs only [agR, Nat.reduceLeDiff, Nat.reduceSub, vaR, go_sem, ints, rows, rat, rats, ratsO, rtR, intsO, rowsO]
    simp -implicitDefEqProofs only [go_sem, evR, ints, rows, rat, rats]
    rw [pbR_no (tabR_bad hgb) (by decide)]
    exact ⟨fun _ => rfl, fun h => absurd h (by decide)⟩
set_option maxRecDepth 20000 in
theorem impl_PureBounds_ok (g : Gm) (hg : gameL g) : Pure Try.prog 32 [gameT g] (tr3 (pbR g)) := by
  refine fun_impl_PureBounds_h (by simp) ?_
  simp -implicitDefEqProofs only [go_sem, evR, ints, rows, rat, rats, c_impl_PureBounds_h, gameT, nodes]
  rcases Bool.eq_false_or_eq_true (isGameB g) with hgb | hgb
  · by_cases hb : nPure g 0 ≤ 16 ∧ nPure g 1 ≤ 16
    · have hq := impl_tableOf_ok g hg hgb hb.1 hb.2
      simp only [rowsO] at hq
      refine CallW.res hq [] rfl Try.call100 ?_ (.inl rfl) ?_
      · simp -implicitDefEqProofs only [agR, Nat.reduceLeDiff, Nat.reduceSub, vaR, go_sem, ints, rows, rat, rats, ratsO, rtR, intsO, rowsO]
      simp -implicitDefEqProofs only [clR, Nat.reduceLeDiff, go_sem, evR, rat, bne_self_eq_false, opR, Nat.reduceBEq]
      obtain ⟨s1, s2, s3, s4, s5, s6⟩ := tabM_shape hgb hb
      have hp := impl_turned_ok (tabM g) (nPure g 1).toNat (fun e => by rw [e] at s1; simp at s1) s3 (by omega) (by omega)
      rw [pbR_ok hgb hb]
      generalize (nPure g 1).toNat = c at s3 s4 s5 hp ⊢
      generalize tabM g = m at s1 s2 s3 hp ⊢
      obtain ⟨r0, hr0⟩ : ∃ x, m[0]? = some x := ⟨_, List.getElem?_eq_getElem (by omega)⟩
      have hl0 := s3 r0 (List.mem_of_getElem? hr0)
      have hR : (m.map minL).length = m.length := by simp
      have hC : ((tr m c).map maxL).length = c := by simp [tr]
      have hR0 : (m.map minL)[0]? = some (minL r0) := by rw [List.getElem?_map, hr0]; rfl
      refine ⟨_, Weak.trans (Weak.share 16 rfl) (Weak.of [(5, .t (rows m))] [] [] (by simp) (by simp) ?_ ?_), ?_⟩
      · simp -implicitDefEqProofs only [ints, rows, Nat.reduceBEq, wkR, Nat.reduceEqDiff, ↓reduceIte, wrR, shareA, T.toSh, toShL_intsO]
      · exact trivial
      simp -implicitDefEqProofs only [go_sem, evR, ints, rows, rat, rats, hr0, List.getElem?_map, Option.map_some, Option.getD_some, List.length_map]
      repeat (first | refine ⟨by omega, ?_⟩ | refine ⟨by rw [nd_len]; omega, ?_⟩)
      have hmn := fun (r : List Int) (h : r.length = c) => slices_Min_ok r (fun e => by rw [e] at h; simp at h; omega) (by omega)
      have hmx := fun (r : List Int) (h : r.length = m.length) => slices_Max_ok r (fun e => by rw [e] at h; simp at h; omega) (by omega)
      refine CallW.pure (hmn r0 hl0) [] rfl Try.call105 ?_ (by first | trivial | simp [T.noSh, T.noShL, rat]) rfl ?_
      · simp -implicitDefEqProofs only [agR, Nat.reduceLeDiff, Nat.reduceSub, vaR, go_sem, ints, rows, rat, rats, ratsO, rtR, intsO, rowsO]
      simp -implicitDefEqProofs only [go_sem, evR, ints, rows, rat, rats]
      refine SemC.loopR (σ := Nat) (fun i => St.of [(5, .t (rows m)), (7, .t (.i (maxL ((m.map minL).take (max i 1))))), (8, .t (.i 0)), (26, .t (rows m)), (27, .t (.i m.length)), (28, .t (.i i))] []) (fun i => i ≤ m.length) (fun i => m.length - i) 0 (Weak.of _ _ [] (by simp) (by simp) ?_ ?_) (by omega) fun i hi Q hn hr1 he => ?_
      · simp -implicitDefEqProofs only [ints, rows, Nat.reduceBEq, wkR, Nat.reduceEqDiff, ↓reduceIte, wrR, (take_one hR0).2, List.length_map]
      · exact trivial
      rcases Nat.lt_or_ge i m.length with h9 | h9
      · obtain ⟨x, hx⟩ : ∃ x, m[i]? = some x := ⟨_, List.getElem?_eq_getElem h9⟩
        have hx1 : (m.map minL)[i]? = some (minL x) := by rw [List.getElem?_map, hx]; rfl
        have hms := max_step hx1
        simp -implicitDefEqProofs only [go_sem, evR, ints, rows, rat, rats, hx, decide_eq_true (show (i : Int) < (m.length : Int) by omega), List.getElem?_map, Option.map_some, Option.getD_some, List.length_map]
        repeat (first | refine ⟨by omega, ?_⟩ | refine ⟨by rw [nd_len]; omega, ?_⟩)
        refine CallW.pure (hmn x (s3 x (List.mem_of_getElem? hx))) [] rfl Try.call105 ?_ (by first | trivial | simp [T.noSh, T.noShL, rat]) rfl ?_
        · simp -implicitDefEqProofs only [agR, Nat.reduceLeDiff, Nat.reduceSub, vaR, go_sem, ints, rows, rat, rats, ratsO, rtR, intsO, rowsO]
        simp -implicitDefEqProofs only [go_sem, evR, ints, rows, rat, rats]
        refine hn _ (i + 1) (Weak.of _ _ [] (by simp) (by simp) ?_ ?_) (by omega) (by omega)
        · simp -implicitDefEqProofs only [ints, rows, Nat.reduceBEq, wkR, Nat.reduceEqDiff, ↓reduceIte, wrR, next64 h9 (by omega), hms, max_succ]
        · exact trivial
      · have hil : i = m.length := by omega
        rw [show (m.map minL).take (max i 1) = m.map minL from take_all1 (by omega) (by omega)]
        generalize hlow : maxL (m.map minL) = low
        simp -implicitDefEqProofs only [go_sem, evR, ints, rows, rat, rats, hil, decide_eq_false (show ¬ (m.length : Int) < (m.length : Int) by omega)]
        refine he _ _ ?_
        simp only [rowsO] at hp
        simp -implicitDefEqProofs only [go_sem, evR, ints, rows, rat, rats]
        refine CallW.res hp [] rfl Try.call104 ?_ (.inl rfl) ?_
        · simp -implicitDefEqProofs only [agR, Nat.reduceLeDiff, Nat.reduceSub, vaR, go_sem, ints, rows, rat, rats, ratsO, rtR, intsO, rowsO]
        simp -implicitDefEqProofs only [clR, Nat.reduceLeDiff, go_sem, evR, rat]
        have htl : (tr m c).length = c := by simp [tr]
        refine SemC.loopR (σ := Nat) (fun i => St.of [(7, .t (.i low)), (8, .t (.i (if i = 0 then 0 else minL (((tr m c).map maxL).take i)))), (38, .t (rows (tr m c))), (39, .t (.i c)), (40, .t (.i i))] []) (fun i => i ≤ c) (fun i => c - i) 0 (Weak.trans (Weak.share 38 rfl) (Weak.of _ _ [] (by simp) (by simp) ?_ ?_)) (by omega) fun i hi Q hn hr1 he => ?_
        · simp -implicitDefEqProofs only [ints, rows, Nat.reduceBEq, wkR, Nat.reduceEqDiff, ↓reduceIte, wrR, shareA, T.toSh, toShL_intsO, List.length_map, htl, if_pos]
        · exact trivial
        rcases Nat.lt_or_ge i c with h9 | h9
        · have hcg : (tr m c)[i]? = some (colOf m i) := by rw [tr, List.getElem?_map, List.getElem?_range h9]; rfl
          have hx1 : ((tr m c).map maxL)[i]? = some (maxL (colOf m i)) := by rw [List.getElem?_map, hcg]; rfl
          have hms := min_step hx1
          have hcl := colOf_len m i
          simp -implicitDefEqProofs only [go_sem, evR, ints, rows, rat, rats, hcg, htl, decide_eq_true (show (i : Int) < (c : Int) by omega), List.getElem?_map, Option.map_some, Option.getD_some, List.length_map]
          repeat (first | refine ⟨by omega, ?_⟩ | refine ⟨by rw [nd_len]; omega, ?_⟩)
          refine CallW.pure (hmx (colOf m i) hcl) [] rfl Try.call106 ?_ (by first | trivial | simp [T.noSh, T.noShL, rat]) rfl ?_
          · simp -implicitDefEqProofs only [agR, Nat.reduceLeDiff, Nat.reduceSub, vaR, go_sem, ints, rows, rat, rats, ratsO, rtR, intsO, rowsO]
          simp -implicitDefEqProofs only [go_sem, evR, ints, rows, rat, rats]
          have hw0 : i = 0 → minL (((tr m c).map maxL).take (i + 1)) = maxL (colOf m i) := fun e => by subst e; exact (take_one hx1).1
          have hw1 : i ≠ 0 → minL (((tr m c).map maxL).take (i + 1)) = min (minL (((tr m c).map maxL).take i)) (maxL (colOf m i)) := fun e => by rw [← hms, Nat.max_eq_left (by omega)]
          refine ⟨fun h => ⟨fun h2 => hn _ (i + 1) (Weak.of _ _ [] (by simp) (by simp) ?_ ?_) (by omega) (by omega), fun h2 => hn _ (i + 1) (Weak.of _ _ [] (by simp) (by simp) ?_ ?_) (by omega) (by omega)⟩, fun h => hn _ (i + 1) (Weak.of _ _ [] (by simp) (by simp) ?_ ?_) (by omega) (by omega)⟩
          · have hi0 : i ≠ 0 := by simpa using h
            rw [if_neg hi0] at h2
            simp -implicitDefEqProofs only [ints, rows, Nat.reduceBEq, wkR, Nat.reduceEqDiff, ↓reduceIte, wrR, next64 h9 (by omega), if_neg (show ¬ i + 1 = 0 by omega), hw1 hi0, Int.min_eq_right (Int.le_of_lt h2)]
          · exact trivial
          · have hi0 : i ≠ 0 := by simpa using h
            rw [if_neg hi0] at h2
            simp -implicitDefEqProofs only [ints, rows, Nat.reduceBEq, wkR, Nat.reduceEqDiff, ↓reduceIte, wrR, next64 h9 (by omega), if_neg (show ¬ i + 1 = 0 by omega), if_neg hi0, hw1 hi0, Int.min_eq_left (Int.not_lt.1 h2)]
          · exact trivial
          · have hi0 : i = 0 := by simpa using h
            simp -implicitDefEqProofs only [ints, rows, Nat.reduceBEq, wkR, Nat.reduceEqDiff, ↓reduceIte, wrR, next64 h9 (by omega), if_neg (show ¬ i + 1 = 0 by omega), hw0 hi0]
          · exact trivial
        · have hil : i = c := by omega
          rw [show ((tr m c).map maxL).take i = (tr m c).map maxL from List.take_of_length_le (by omega), if_neg (by omega)]
          simp -implicitDefEqProofs only [go_sem, evR, ints, rows, rat, rats, hil, decide_eq_false (show ¬ (c : Int) < (c : Int) by omega)]
          refine he _ _ ?_
          simp -implicitDefEqProofs only [go_sem, evR, ints, rows, rat, rats, tr3, hlow]
    · refine CallW.pure (impl_tableOf_big g hg hgb hb) [] rfl Try.call100 ?_ (by first | trivial | simp [T.noSh, T.noShL, rat]) rfl ?_
      · simp -implicitDefEqProofs only [agR, Nat.reduceLeDiff, Nat.reduceSub, vaR, go_sem, ints, rows, rat, rats, ratsO, rtR, intsO, rowsO]
      simp -implicitDefEqProofs only [go_sem, evR, ints, rows, rat, rats]
      rw [pbR_no (tabR_big hgb hb) (by decide)]
      exact ⟨fun _ => rfl, fun h => absurd h (by decide)⟩
  · refine CallW.pure (impl_tableOf_bad g hg hgb) [] rfl Try.call100 ?_ (by first | trivial | simp [T.noSh, T.noShL, rat]) rfl ?_
    · simp -implicitDefEqProofs only [agR, Nat.reduceLeDiff, Nat.reduceSub, vaR, go_sem, ints, rows, rat, rats, ratsO, rtR, intsO, rowsO]
    simp -implicitDefEqProofs only [go_sem, evR, ints, rows, rat, rats]
    rw [pbR_no (tabR_bad hgb) (by decide)]
    exact ⟨fun _ => rfl, fun h => absurd h (by decide)⟩
end
end Go.Ab

/- Contracts: equilibria of pure strategies. -/
set_option linter.unusedSimpArgs false
set_option linter.unusedVariables false
namespace Go.Ab
open Go.Proofs
section
attribute [-go_sem] load1C load1V fldC lenC idxC loadNV nilCheckW
set_option maxRecDepth 20000 in
theorem spec_PureEquilibrium_ok (g : Gm) (hg : gameL g) : Pure Try.prog 29 [gameT g] (tr3 (peR g)) := by
  refine fun_spec_PureEquilibrium (by simp) ?_
  simp -implicitDefEqProofs only [go_sem, evR, ints, rows, rat, rats, c_spec_PureEquilibrium, gameT, nodes]
  rcases Bool.eq_false_or_eq_true (isGameB g) with hgb | hgb
  · by_cases hb : nPure g 0 ≤ 16 ∧ nPure g 1 ≤ 16
    · have hq := spec_l28Table_ok g hg hgb hb.1 hb.2
      simp only [rowsO] at hq
      refine CallW.res hq [] rfl Try.call97 ?_ (.inl rfl) ?_
      · simp -implicitDefEqProofs only [agR, Nat.reduceLeDiff, Nat.reduceSub, vaR, go_sem, ints, rows, rat, rats, ratsO, rtR, intsO, rowsO]
      simp -implicitDefEqProofs only [clR, Nat.reduceLeDiff, go_sem, evR, rat, bne_self_eq_false, opR, Nat.reduceBEq]
      obtain ⟨s1, s2, s3, s4, s5, s6⟩ := tabM_shape hgb hb
      have hp := spec_l28Extremes_ok (tabM g) (nPure g 1).toNat s1 s2 s4 s5 s3
      rw [peR_ok hgb hb]
      generalize (nPure g 1).toNat = c at s3 s4 s5 hp ⊢
      generalize tabM g = m at s1 s2 s3 hp ⊢
      have hC : (tr m c).length = c := by simp [tr]
      simp only [rows, intsO] at hp
      refine CallW.res hp [13] rfl Try.call103 ?_ (.inr ⟨intsO_noSh _, intsO_noSh _, trivial⟩) ?_
      · simp -implicitDefEqProofs only [agR, Nat.reduceLeDiff, Nat.reduceSub, vaR, go_sem, ints, rows, rat, rats, ratsO, rtR, intsO, rowsO]
      simp -implicitDefEqProofs only [clR, Nat.reduceLeDiff, go_sem, evR, rat, intsO, opR, Nat.reduceBEq]
      refine SemC.loopR (σ := Nat) (fun i => St.of [(5, .t (rows m)), (7, .t (ints (m.map minL))), (8, .t (ints ((tr m c).map maxL))), (9, .t (.i i))] []) (fun i => i ≤ m.length ∧ noSad m c i 0) (fun i => m.length - i) 0 (Weak.trans (Weak.share 13 rfl) (Weak.trans (Weak.share 21 rfl) (Weak.trans (Weak.share 22001 rfl) (Weak.of _ _ [] (by simp) (by simp) ?_ ?_)))) ⟨by omega, fun _ _ h => by omega, fun _ h => by omega⟩ fun i hI R hn hr he => ?_
      · simp -implicitDefEqProofs only [ints, rows, Nat.reduceBEq, wkR, Nat.reduceEqDiff, ↓reduceIte, wrR, shareA, T.toSh, toShL_ints, toShL_intsO]
      · exact trivial
      obtain ⟨hi, hI⟩ := hI
      rcases Nat.lt_or_ge i m.length with h9 | h9
      · obtain ⟨r, hrow⟩ : ∃ r, m[i]? = some r := ⟨_, List.getElem?_eq_getElem h9⟩
        have hlr := s3 r (List.mem_of_getElem? hrow)
        simp -implicitDefEqProofs only [go_sem, evR, ints, rows, rat, rats, hrow, decide_eq_true (show (i : Int) < (m.length : Int) by omega), List.getElem?_map, Option.map_some, Option.getD_some, List.length_map]
        refine SemC.loopR (σ := Nat) (fun k => St.of [(5, .t (rows m)), (7, .t (ints (m.map minL))), (8, .t (ints ((tr m c).map maxL))), (9, .t (.i i)), (10, .t (.i k))] []) (fun k => k ≤ c ∧ noSad m c i k) (fun k => c - k) 0 (Weak.of _ _ [] (by simp) (by simp) ?_ ?_) ⟨by omega, hI⟩ fun k hK R2 hn2 hr2 he2 => ?_
        · simp -implicitDefEqProofs only [ints, rows, Nat.reduceBEq, wkR, Nat.reduceEqDiff, ↓reduceIte, wrR]
        · exact trivial
        obtain ⟨hk, hK⟩ := hK
        rcases Nat.lt_or_ge k c with h8 | h8
        · obtain ⟨x, hx⟩ : ∃ x, r[k]? = some x := ⟨_, List.getElem?_eq_getElem (by omega)⟩
          have hsad := sad_eq hrow hlr hx
          have hg1 : (m.map minL)[i]? = some (minL r) := by rw [List.getElem?_map, hrow]; rfl
          have hg2 : (tr m c)[k]? = some (colOf m k) := by rw [tr, List.getElem?_map, List.getElem?_range h8]; rfl
          simp -implicitDefEqProofs only [go_sem, evR, ints, rows, rat, rats, hrow, hx, hg2, hlr, hC, decide_eq_true (show (k : Int) < (c : Int) by omega), List.getElem?_map, Option.map_some, Option.getD_some, List.length_map]
          repeat (first | refine ⟨by omega, ?_⟩ | refine ⟨by rw [nd_len]; omega, ?_⟩)
          refine ⟨fun a => ⟨by omega, by omega, h9, by omega, by omega, h8, by omega, by omega, h8, fun b => ?_, fun b => ?_⟩, fun a => ?_⟩
          · have a1 : x = minL r := by simpa using a
            have b1 : x = maxL (colOf m k) := by simpa using b
            rw [decide_eq_true a1, decide_eq_true b1] at hsad
            refine hr2 _ ?_
            simp -implicitDefEqProofs only [go_sem, evR, ints, rows, rat, rats]
            refine hr _ ?_
            simp -implicitDefEqProofs only [go_sem, evR, ints, rows, rat, rats]
            rw [saddle_some h9 h8 hK hsad]
            rfl
          · have a1 : x = minL r := by simpa using a
            have b1 : ¬ x = maxL (colOf m k) := by simpa using b
            have hs : sad m c i k = false := by rw [hsad, decide_eq_true a1, decide_eq_false b1]; rfl
            refine hn2 _ (k + 1) (Weak.of _ _ [] (by simp) (by simp) ?_ ?_) ⟨by omega, noSad_next hK hs⟩ (by omega)
            · simp -implicitDefEqProofs only [ints, rows, Nat.reduceBEq, wkR, Nat.reduceEqDiff, ↓reduceIte, wrR, next64 h8 (by omega)]
            · exact trivial
          · have a1 : ¬ x = minL r := by simpa using a
            have hs : sad m c i k = false := by rw [hsad, decide_eq_false a1]; rfl
            refine hn2 _ (k + 1) (Weak.of _ _ [] (by simp) (by simp) ?_ ?_) ⟨by omega, noSad_next hK hs⟩ (by omega)
            · simp -implicitDefEqProofs only [ints, rows, Nat.reduceBEq, wkR, Nat.reduceEqDiff, ↓reduceIte, wrR, next64 h8 (by omega)]
            · exact trivial
        · have hkc : k = c := by omega
          rw [hkc] at hK
          simp -implicitDefEqProofs only [go_sem, evR, ints, rows, rat, rats, hrow, hlr, decide_eq_false (show ¬ (k : Int) < (c : Int) by omega), List.getElem?_map, Option.map_some, Option.getD_some, List.length_map]
          repeat (first | refine ⟨by omega, ?_⟩ | refine ⟨by rw [nd_len]; omega, ?_⟩)
          refine he2 _ _ ?_
          simp -implicitDefEqProofs only [go_sem, evR, ints, rows, rat, rats]
          refine hn _ (i + 1) (Weak.of _ _ [] (by simp) (by simp) ?_ ?_) ⟨by omega, noSad_row hK⟩ (by omega)
          · simp -implicitDefEqProofs only [ints, rows, Nat.reduceBEq, wkR, Nat.reduceEqDiff, ↓reduceIte, wrR, next64 h9 (by omega)]
          · exact trivial
      · have hil : i = m.length := by omega
        simp -implicitDefEqProofs only [go_sem, evR, ints, rows, rat, rats, decide_eq_false (show ¬ (i : Int) < (m.length : Int) by omega), List.length_map]
        refine he _ _ ?_
        simp -implicitDefEqProofs only [go_sem, evR, ints, rows, rat, rats]
        rw [saddle_none (fun i' k' hi' hk' => hI.1 i' k' (by omega) hk')]
        rfl
    · refine CallW.pure (spec_l28Table_big g hg hgb hb) [] rfl Try.call97 ?_ (by first | trivial | simp [T.noSh, T.noShL, rat]) rfl ?_
      · simp -implicitDefEqProofs only [agR, Nat.reduceLeDiff, Nat.reduceSub, vaR, go_sem, ints, rows, rat, rats, ratsO, rtR, intsO, rowsO]
      simp -implicitDefEqProofs only [go_sem, evR, ints, rows, rat, rats]
      rw [peR_no (tabR_big hgb hb) (by decide)]
      exact ⟨fun _ => rfl, fun h => absurd h (by decide)⟩
  · refine CallW.pure (spec_l28Table_bad g hg hgb) [] rfl Try.call97 ?_ (by first | trivial | simp [T.noSh, T.noShL, rat]) rfl ?_
    · simp -implicitDefEqProofs only [agR, Nat.reduceLeDiff, Nat.reduceSub, vaR, go_sem, ints, rows, rat, rats, ratsO, rtR, intsO, rowsO]
    simp -implicitDefEqProofs only [go_sem, evR, ints, rows, rat, rats]
    rw [peR_no (tabR_bad hgb) (by decide)]
    exact ⟨fun _ => rfl, fun h => absurd h (by decide)⟩
set_option maxRecDepth 20000 in
theorem impl_PureEquilibrium_ok (g : Gm) (hg : gameL g) : Pure Try.prog 30 [gameT g] (tr3 (peR g)) := by
  refine fun_impl_PureEquilibrium (by simp) ?_
  simp -implicitDefEqProofs only [go_sem, evR, ints, rows, rat, rats, c_impl_PureEquilibrium, gameT, nodes]
  rcases Bool.eq_false_or_eq_true (isGameB g) with hgb | hgb
  · by_cases hb : nPure g 0 ≤ 16 ∧ nPure g 1 ≤ 16
    · have hq := impl_tableOf_ok g hg hgb hb.1 hb.2
      simp only [rowsO] at hq
      refine CallW.res hq [] rfl Try.call100 ?_ (.inl rfl) ?_
      · simp -implicitDefEqProofs only [agR, Nat.reduceLeDiff, Nat.reduceSub, vaR, go_sem, ints, rows, rat, rats, ratsO, rtR, intsO, rowsO]
      simp -implicitDefEqProofs only [clR, Nat.reduceLeDiff, go_sem, evR, rat, bne_self_eq_false, opR, Nat.reduceBEq]
      obtain ⟨s1, s2, s3, s4, s5, s6⟩ := tabM_shape hgb hb
      have hp := impl_turned_ok (tabM g) (nPure g 1).toNat (fun e => by rw [e] at s1; simp at s1) s3 (by omega) (by omega)
      rw [peR_ok hgb hb]
      generalize (nPure g 1).toNat = c at s3 s4 s5 hp ⊢
      generalize tabM g = m at s1 s2 s3 hp ⊢
      have hC : (tr m c).length = c := by simp [tr]
      have hmn := fun (r : List Int) (h : r.length = c) => slices_Min_ok r (fun e => by rw [e] at h; simp at h; omega) (by omega)
      have hmx := fun (r : List Int) (h : r.length = m.length) => slices_Max_ok r (fun e => by rw [e] at h; simp at h; omega) (by omega)
      simp only [rows, rowsO] at hp
      refine CallW.res hp [14] rfl Try.call104 ?_ (.inr (rowsO_noSh _)) ?_
      · simp -implicitDefEqProofs only [agR, Nat.reduceLeDiff, Nat.reduceSub, vaR, go_sem, ints, rows, rat, rats, ratsO, rtR, intsO, rowsO]
      simp -implicitDefEqProofs only [clR, Nat.reduceLeDiff, go_sem, evR, rat, opR, Nat.reduceBEq, List.length_map]
      refine SemC.loopR (σ := Nat) (fun i => St.of [(7, .t (rows (tr m c))), (22, .t (rows m)), (23, .t (.i m.length)), (24, .t (.i i))] []) (fun i => i ≤ m.length ∧ noSad m c i 0) (fun i => m.length - i) 0 (Weak.trans (Weak.share 14 rfl) (Weak.trans (Weak.share 21 rfl) (Weak.of _ _ [] (by simp) (by simp) ?_ ?_))) ⟨by omega, fun _ _ h => by omega, fun _ h => by omega⟩ fun i hI R hn hr he => ?_
      · simp -implicitDefEqProofs only [ints, rows, Nat.reduceBEq, wkR, Nat.reduceEqDiff, ↓reduceIte, wrR, shareA, T.toSh, toShL_intsO, List.length_map]
      · exact trivial
      obtain ⟨hi, hI⟩ := hI
      rcases Nat.lt_or_ge i m.length with h9 | h9
      · obtain ⟨r, hrow⟩ : ∃ r, m[i]? = some r := ⟨_, List.getElem?_eq_getElem h9⟩
        have hlr := s3 r (List.mem_of_getElem? hrow)
        simp -implicitDefEqProofs only [go_sem, evR, ints, rows, rat, rats, hrow, hlr, decide_eq_true (show (i : Int) < (m.length : Int) by omega), List.getElem?_map, Option.map_some, Option.getD_some, List.length_map]
        repeat (first | refine ⟨by omega, ?_⟩ | refine ⟨by rw [nd_len]; omega, ?_⟩)
        refine SemC.loopR (σ := Nat) (fun k => St.of [(7, .t (rows (tr m c))), (8, .t (.i i)), (9, .t (ints r)), (22, .t (rows m)), (23, .t (.i m.length)), (24, .t (.i i)), (29, .t (ints r)), (30, .t (.i c)), (31, .t (.i k))] []) (fun k => k ≤ c ∧ noSad m c i k) (fun k => c - k) 0 (Weak.of _ _ [] (by simp) (by simp) ?_ ?_) ⟨by omega, hI⟩ fun k hK R2 hn2 hr2 he2 => ?_
        · simp -implicitDefEqProofs only [ints, rows, Nat.reduceBEq, wkR, Nat.reduceEqDiff, ↓reduceIte, wrR]
        · exact trivial
        obtain ⟨hk, hK⟩ := hK
        rcases Nat.lt_or_ge k c with h8 | h8
        · obtain ⟨x, hx⟩ : ∃ x, r[k]? = some x := ⟨_, List.getElem?_eq_getElem (by omega)⟩
          have hsad := sad_eq hrow hlr hx
          have hg2 : (tr m c)[k]? = some (colOf m k) := by rw [tr, List.getElem?_map, List.getElem?_range h8]; rfl
          simp -implicitDefEqProofs only [go_sem, evR, ints, rows, rat, rats, hx, hg2, hC, decide_eq_true (show (k : Int) < (c : Int) by omega), List.getElem?_map, Option.map_some, Option.getD_some, List.length_map]
          repeat (first | refine ⟨by omega, ?_⟩ | refine ⟨by rw [nd_len]; omega, ?_⟩)
          refine CallW.pure (hmn r hlr) [] rfl Try.call105 ?_ (by first | trivial | simp [T.noSh, T.noShL, rat]) rfl ?_
          · simp -implicitDefEqProofs only [agR, Nat.reduceLeDiff, Nat.reduceSub, vaR, go_sem, ints, rows, rat, rats, ratsO, rtR, intsO, rowsO]
          simp -implicitDefEqProofs only [go_sem, evR, ints, rows, rat, rats, hg2, hC, List.getElem?_map, Option.map_some, Option.getD_some, List.length_map]
          refine ⟨fun a => ⟨by omega, by omega, h8, ?_⟩, fun a => ?_⟩
          · refine CallW.pure (hmx (colOf m k) (colOf_len m k)) [] rfl Try.call106 ?_ (by first | trivial | simp [T.noSh, T.noShL, rat]) rfl ?_
            · simp -implicitDefEqProofs only [agR, Nat.reduceLeDiff, Nat.reduceSub, vaR, go_sem, ints, rows, rat, rats, ratsO, rtR, intsO, rowsO]
            simp -implicitDefEqProofs only [go_sem, evR, ints, rows, rat, rats]
            refine ⟨fun b => ?_, fun b => ?_⟩
            · have a1 : x = minL r := by simpa using a
              have b1 : x = maxL (colOf m k) := by simpa using b
              rw [decide_eq_true a1, decide_eq_true b1] at hsad
              refine hr2 _ ?_
              simp -implicitDefEqProofs only [go_sem, evR, ints, rows, rat, rats]
              refine hr _ ?_
              simp -implicitDefEqProofs only [go_sem, evR, ints, rows, rat, rats]
              rw [saddle_some h9 h8 hK hsad]
              rfl
            · have a1 : x = minL r := by simpa using a
              have b1 : ¬ x = maxL (colOf m k) := by simpa using b
              have hs : sad m c i k = false := by rw [hsad, decide_eq_true a1, decide_eq_false b1]; rfl
              refine hn2 _ (k + 1) (Weak.of _ _ [] (by simp) (by simp) ?_ ?_) ⟨by omega, noSad_next hK hs⟩ (by omega)
              · simp -implicitDefEqProofs only [ints, rows, Nat.reduceBEq, wkR, Nat.reduceEqDiff, ↓reduceIte, wrR, next64 h8 (by omega)]
              · exact trivial
          · have a1 : ¬ x = minL r := by simpa using a
            have hs : sad m c i k = false := by rw [hsad, decide_eq_false a1]; rfl
            refine hn2 _ (k + 1) (Weak.of _ _ [] (by simp) (by simp) ?_ ?_) ⟨by omega, noSad_next hK hs⟩ (by omega)
            · simp -implicitDefEqProofs only [ints, rows, Nat.reduceBEq, wkR, Nat.reduceEqDiff, ↓reduceIte, wrR, next64 h8 (by omega)]
            · exact trivial
        · have hkc : k = c := by omega
          rw [hkc] at hK
          simp -implicitDefEqProofs only [go_sem, evR, ints, rows, rat, rats, decide_eq_false (show ¬ (k : Int) < (c : Int) by omega)]
          refine he2 _ _ ?_
          simp -implicitDefEqProofs only [go_sem, evR, ints, rows, rat, rats]
          refine hn _ (i + 1) (Weak.of _ _ [] (by simp) (by simp) ?_ ?_) ⟨by omega, noSad_row hK⟩ (by omega)
          · simp -implicitDefEqProofs only [ints, rows, Nat.reduceBEq, wkR, Nat.reduceEqDiff, ↓reduceIte, wrR, next64 h9 (by omega)]
          · exact trivial
      · have hil : i = m.length := by omega
        simp -implicitDefEqProofs only [go_sem, evR, ints, rows, rat, rats, decide_eq_false (show ¬ (i : Int) < (m.length : Int) by omega)]
        refine he _ _ ?_
        simp -implicitDefEqProofs only [go_sem, evR, ints, rows, rat, rats]
        rw [saddle_none (fun i' k' hi' hk' => hI.1 i' k' (by omega) hk')]
        rfl
    · refine CallW.pure (impl_tableOf_big g hg hgb hb) [] rfl Try.call100 ?_ (by first | trivial | simp [T.noSh, T.noShL, rat]) rfl ?_
      · simp -implicitDefEqProofs only [agR, Nat.reduceLeDiff, Nat.reduceSub, vaR, go_sem, ints, rows, rat, rats, ratsO, rtR, intsO, rowsO]
      simp -implicitDefEqProofs only [go_sem, evR, ints, rows, rat, rats]
      rw [peR_no (tabR_big hgb hb) (by decide)]
      exact ⟨fun _ => rfl, fun h => absurd h (by decide)⟩
  · refine CallW.pure (impl_tableOf_bad g hg hgb) [] rfl Try.call100 ?_ (by first | trivial | simp [T.noSh, T.noShL, rat]) rfl ?_
    · simp -implicitDefEqProofs only [agR, Nat.reduceLeDiff, Nat.reduceSub, vaR, go_sem, ints, rows, rat, rats, ratsO, rtR, intsO, rowsO]
    simp -implicitDefEqProofs only [go_sem, evR, ints, rows, rat, rats]
    rw [peR_no (tabR_bad hgb) (by decide)]
    exact ⟨fun _ => rfl, fun h => absurd h (by decide)⟩
end
end Go.Ab

/- Functions in compact form, with hints. -/
set_option linter.unusedVariables false
namespace Go.Ab
open Go.Proofs

def c_laws_FnTables_h : CC :=
 (.seq (.reg [.o (.move 2 (cb false))])
 ((.seq (.seq (.reg [.o (.move 20 (sl 0)),
 .o (.call (some 21) (cf 51) [(sl 20)])])
 ((.cond (sl 21) (.seq (.reg [.o (.move 2 (cb true))])
 (.ret))
 .skip)))
 ((.seq (.reg [.o (.move 22 (sl 0)),
 .o (.call (some 23) (cf 83) [(sl 22)]),
 .o (.alloc 3 [.v (.slice none 0 0), .v (.slice none 0 0), .v (.slice none 0 0)]),
 .o (.store 3 (sl 3) (sl 23))])
 ((.seq (.weak (.reg [.o (.loadN 25 3 (sl 3)),
 .o (.call (some 26) (cf 23) [(sl 25)]),
 .o (.move 24 (sl 26)),
 .o (.extract 27 (sl 24) 0),
 .o (.extract 28 (sl 24) 1),
 .o (.move 4 (sl 27)),
 .o (.move 5 (sl 28))]))
 ((.seq (.reg [.o (.loadN 30 3 (sl 3)),
 .o (.call (some 31) (cf 21) [(sl 30)]),
 .o (.move 29 (sl 31)),
 .o (.extract 32 (sl 29) 0),
 .o (.extract 33 (sl 29) 1),
 .o (.move 6 (sl 32)),
 .o (.move 7 (sl 33))])
 ((.seq (.reg [.o (.loadN 35 3 (sl 3)),
 .o (.call (some 36) (cf 32) [(sl 35)]),
 .o (.move 34 (sl 36)),
 .o (.extract 37 (sl 34) 0),
 .o (.extract 38 (sl 34) 1),
 .o (.extract 39 (sl 34) 2),
 .o (.move 8 (sl 37)),
 .o (.move 9 (sl 38)),
 .o (.move 10 (sl 39))])
 ((.seq (.reg [.o (.loadN 41 3 (sl 3)),
 .o (.call (some 42) (cf 31) [(sl 41)]),
 .o (.move 40 (sl 42)),
 .o (.extract 43 (sl 40) 0),
 .o (.extract 44 (sl 40) 1),
 .o (.extract 45 (sl 40) 2),
 .o (.move 11 (sl 43)),
 .o (.move 12 (sl 44)),
 .o (.move 13 (sl 45))])
 ((.seq (.reg [.o (.loadN 47 3 (sl 3)),
 .o (.call (some 48) (cf 30) [(sl 47)]),
 .o (.move 46 (sl 48)),
 .o (.extract 49 (sl 46) 0),
 .o (.extract 50 (sl 46) 1),
 .o (.extract 51 (sl 46) 2),
 .o (.move 14 (sl 49)),
 .o (.move 15 (sl 50)),
 .o (.move 16 (sl 51))])
 ((.seq (.reg [.o (.loadN 53 3 (sl 3)),
 .o (.call (some 54) (cf 29) [(sl 53)]),
 .o (.move 52 (sl 54)),
 .o (.extract 55 (sl 52) 0),
 .o (.extract 56 (sl 52) 1),
 .o (.extract 57 (sl 52) 2),
 .o (.move 17 (sl 55)),
 .o (.move 18 (sl 56)),
 .o (.move 19 (sl 57))])
 ((.seq (.seq (.reg [.o (.move 58 (sl 5)),
 .o (.move 59 (sl 7)),
 .o (.bin 60 .neq (sl 58) (sl 59)),
 .o (.move 61 (sl 60)),
 .g 61 false (some 62) (.move 62 (sl 4)),
 .g 61 false (some 63) (.move 63 (sl 6)),
 .g 61 false (some 64) (.call (some 64) (cf 84) [(sl 62), (sl 63)]),
 .g 61 false (some 65) (.un 65 .not (sl 64)),
 .o (.pick 66 (sl 61) (cb true) (sl 65)),
 .o (.move 67 (sl 66)),
 .g 67 false (some 68) (.move 68 (sl 10)),
 .g 67 false (some 69) (.move 69 (sl 13)),
 .g 67 false (some 70) (.bin 70 .neq (sl 68) (sl 69)),
 .o (.pick 71 (sl 67) (cb true) (sl 70)),
 .o (.move 72 (sl 71)),
 .g 72 false (some 73) (.move 73 (sl 8)),
 .g 72 false (some 74) (.move 74 (sl 11)),
 .g 72 false (some 75) (.bin 75 .neq (sl 73) (sl 74)),
 .o (.pick 76 (sl 72) (cb true) (sl 75)),
 .o (.move 77 (sl 76)),
 .g 77 false (some 78) (.move 78 (sl 9)),
 .g 77 false (some 79) (.move 79 (sl 12)),
 .g 77 false (some 80) (.bin 80 .neq (sl 78) (sl 79)),
 .o (.pick 81 (sl 77) (cb true) (sl 80)),
 .o (.move 82 (sl 81)),
 .g 82 false (some 83) (.move 83 (sl 16)),
 .g 82 false (some 84) (.move 84 (sl 19)),
 .g 82 false (some 85) (.bin 85 .neq (sl 83) (sl 84)),
 .o (.pick 86 (sl 82) (cb true) (sl 85)),
 .o (.move 87 (sl 86)),
 .g 87 false (some 88) (.move 88 (sl 14)),
 .g 87 false (some 89) (.move 89 (sl 17)),
 .g 87 false (some 90) (.bin 90 .neq (sl 88) (sl 89)),
 .o (.pick 91 (sl 87) (cb true) (sl 90)),
 .o (.move 92 (sl 91)),
 .g 92 false (some 93) (.move 93 (sl 15)),
 .g 92 false (some 94) (.move 94 (sl 18)),
 .g 92 false (some 95) (.bin 95 .neq (sl 93) (sl 94)),
 .o (.pick 96 (sl 92) (cb true) (sl 95))])
 ((.cond (sl 96) (.seq (.reg [.o (.move 2 (cb false))])
 (.ret))
 .skip)))
 ((.seq (.seq (.reg [.o (.move 97 (sl 5)),
 .o (.bin 98 .neq (sl 97) (ci 0))])
 ((.cond (sl 98) (.seq (.reg [.o (.move 99 (sl 10)),
 .o (.move 100 (sl 5)),
 .o (.bin 101 .eql (sl 99) (sl 100)),
 .o (.move 102 (sl 101)),
 .g 102 true (some 103) (.move 103 (sl 16)),
 .g 102 true (some 104) (.move 104 (sl 5)),
 .g 102 true (some 105) (.bin 105 .eql (sl 103) (sl 104)),
 .o (.pick 106 (sl 102) (sl 105) (cb false)),
 .o (.move 2 (sl 106))])
 (.ret))
 .skip)))
 ((.seq (.seq (.reg [.o (.move 107 (sl 8)),
 .o (.move 108 (sl 9)),
 .o (.bin 109 .gtr (sl 107) (sl 108)),
 .o (.move 110 (sl 109)),
 .g 110 false (some 111) (.move 111 (sl 16)),
 .g 110 false (some 112) (.bin 112 .eql (sl 111) (ci 0)),
 .g 110 false (some 113) (.move 113 (sl 8)),
 .g 110 false (some 114) (.move 114 (sl 9)),
 .g 110 false (some 115) (.bin 115 .eql (sl 113) (sl 114)),
 .g 110 false (some 116) (.beq 116 true (sl 112) (sl 115)),
 .o (.pick 117 (sl 110) (cb true) (sl 116))])
 ((.cond (sl 117) (.seq (.reg [.o (.move 2 (cb false))])
 (.ret))
 .skip)))
 ((.seq (.reg [.o (.move 118 (sl 16)),
 .o (.bin 119 .neq (sl 118) (ci 0)),
 .o (.move 120 (sl 119)),
 .g 120 false (some 121) (.move 121 (sl 6)),
 .g 120 false (some 122) (.move 122 (sl 17)),
 .g 120 false (some 123) (.idx 123 1 (sl 121) (sl 122)),
 .g 120 false (some 124) (.load1 124 (sl 123)),
 .g 120 false (some 125) (.move 125 (sl 18)),
 .g 120 false (some 126) (.idx 126 1 (sl 124) (sl 125)),
 .g 120 false (some 127) (.load1 127 (sl 126)),
 .g 120 false (some 128) (.move 128 (sl 8)),
 .g 120 false (some 129) (.bin 129 .eql (sl 127) (sl 128)),
 .o (.pick 130 (sl 120) (cb true) (sl 129)),
 .o (.move 2 (sl 130))])
 (.ret))))))))))))))))))))))))))
theorem fun_laws_FnTables_h {rin : List T} {args : List A} {Q : List T → T → Prop} (ha : args.length ≤ 131) (h : cW Try.prog 131 c_laws_FnTables_h (retP Try.prog [.tmp 2] rin.length Q) (St.of (enum 0 args) (enum 1000000000 rin))) :
    Fun Try.prog 16 rin args Q :=
  Fun.of (H := ⟨[], [4]⟩) Try.func16 rfl rfl rfl (by kernel_rfl) ha (by decide) h

def c_spec_l28Small_h : CC :=
 (.seq (.reg [.o (.alloc 2 [.v (.slice none 0 0), .v (.slice none 0 0), .v (.slice none 0 0)])])
 ((.seq (.seq (.reg [.o (.move 7 (sl 0)),
 .o (.call (some 8) (cf 126) [(sl 7), (ci 4)])])
 ((.block 0 (.seq (.reg [.o (.bin 10 .eql (sl 8) (ci 0)),
 .o (.move 9 (sl 10))])
 ((.cond (sl 9) (.seq (.reg [.o (.move 11 (sl 0)),
 .o (.call (some 12) (cf 190) [(sl 11)]),
 .o (.store 3 (sl 2) (sl 12))])
 (.ret))
 (.seq (.reg [.o (.bin 14 .eql (sl 8) (ci 1)),
 .o (.move 13 (sl 14))])
 ((.cond (sl 13) (.seq (.reg [.o (.move 16 (sl 0)),
 .o (.call (some 17) (cf 126) [(sl 16), (ci 3)]),
 .o (.bin 18 .add (ci 1) (sl 17)),
 .o (.call (some 19) (cf 184) [(ci 1), (sl 18), (ci 0)]),
 .o (.move 15 (sl 19)),
 .o (.extract 20 (sl 15) 0),
 .o (.extract 21 (sl 15) 1),
 .o (.alloc 3 [.v (.slice none 0 0)]),
 .o (.store 1 (sl 3) (sl 20)),
 .o (.move 4 (sl 21))])
 ((.seq (.reg [.o (.loadN 22 1 (sl 3)),
 .o (.call (some 23) (cf 185) [(sl 22), (ci 1), (cb true)]),
 .o (.store 3 (sl 2) (sl 23))])
 (.ret))))
 .skip)))))))))
 ((.seq (.reg [.o (.move 24 (sl 0)),
 .o (.call (some 25) (cf 199) [(sl 24), (cv (.slice none 0 0)), (ci 2)]),
 .o (.move 5 (sl 25))])
 ((.seq (.reg [.o (.move 26 (sl 5)),
 .o (.build 27 [.v (.slice none 0 0)] [(0, 1)] [(0, (sl 26))]),
 .o (.move 28 (sl 0)),
 .o (.call (some 29) (cf 126) [(sl 28), (ci 2)]),
 .o (.bin 30 .add (ci 1) (sl 29)),
 .o (.call (some 31) (cf 185) [(sl 27), (sl 30), (cb true)]),
 .o (.alloc 6 [.v (.slice none 0 0), .v (.slice none 0 0), .v (.slice none 0 0)]),
 .o (.store 3 (sl 6) (sl 31))])
 ((.seq (.seq (.reg [.o (.move 32 (sl 0)),
 .o (.call (some 33) (cf 126) [(sl 32), (ci 2)]),
 .o (.bin 34 .eql (sl 33) (ci 0))])
 ((.cond (sl 34) (.weak (.draw [] [(.r false [1000000000, 40], .o (.fld 35 1 (sl 6))),
 (.r false [1000000000, 40], .o (.load1 36 (sl 35))),
 (.r false [1000000000, 40], .o (.idx 37 1 (sl 36) (ci 0))),
 (.r false [1000000000, 40], .o (.load1 38 (sl 37))),
 (kR, .o (.move 39 (sl 0))),
 (.h (some [1000000000]) [], .o (.call (some 40) (cf 126) [(sl 39), (ci 5)])),
 (kR, .o (.bin 41 .add (ci 1) (sl 40))),
 (kR, .o (.idx 42 1 (sl 38) (ci 0))),
 (kH, .o (.store 1 (sl 42) (sl 41)))]))
 .skip)))
 ((.seq (.weak (.reg [.o (.loadN 43 3 (sl 6)),
 .o (.store 3 (sl 2) (sl 43))]))
 (.ret))))))))))))
theorem fun_spec_l28Small_h {rin : List T} {args : List A} {Q : List T → T → Prop} (ha : args.length ≤ 44) (h : cW Try.prog 44 c_spec_l28Small_h (retP Try.prog [.cell 2 35] rin.length Q) (St.of (enum 0 args) (enum 1000000000 rin))) :
    Fun Try.prog 149 rin args Q :=
  Fun.of (H := ⟨[(10, 0, .r false [1000000000, 40]), (10, 1, .r false [1000000000, 40]), (10, 2, .r false [1000000000, 40]), (10, 3, .r false [1000000000, 40]), (10, 5, .h (some [1000000000]) [])], [10, 11]⟩) Try.func149 rfl rfl rfl (by kernel_rfl) ha (by decide) h

end Go.Ab

/- Contracts: drawn small games. -/
set_option linter.unusedSimpArgs false
set_option linter.unusedVariables false
namespace Go.Ab
open Go.Proofs
def smT (x : Gm × Nat) : T := if x.2 = 2 then .agg [nodesO x.1.nd, rowsO x.1.w, rowsO x.1.v] else .agg [if x.2 = 0 then nodes x.1.nd else .arr 5 (chunk nodeC x.1.nd), rows x.1.w, rows x.1.v]
theorem hideK {α : Type} {p : α → Prop} (k0 : α) (h : ∀ k, k0 = k → p k) : p k0 := h k0 rfl
theorem Fun.nilArg {P : Program} {f : FuncId} {rin : List T} {args args' : List A} {s : Nat} {Q : List T → T → Prop} (h : Fun P f (rin ++ [.arr s []]) args' Q) (hl : args'.length = args.length)
    (ha : ∀ i (h1 : i < args.length) (h2 : i < args'.length), args'[i] = args[i] ∨ (args[i] = .t (.v (.slice none 0 0)) ∧ args'[i] = .own (1000000000 + rin.length))) :
    Fun P f rin args fun o r => ∃ t, Q (o ++ [t]) r := by
  intro X w vals hs fp M hv hi
  have hR := M.none (1000000000 + rin.length) (.inr (Nat.le_refl _))
  let hs' : Nat → Option Value := fun r => if r = 1000000000 + rin.length then some (.slice none 0 0) else hs r
  have hs1 : hs' (1000000000 + rin.length) = some (.slice none 0 0) := by show (if _ then _ else _) = _; rw [if_pos rfl]
  have hs2 : ∀ r, r ≠ 1000000000 + rin.length → hs' r = hs r := fun r e => by show (if _ then _ else _) = _; rw [if_neg e]
  have keep : ∀ (p : Nat → Prop) (w : World), Keeps p w w := fun p w _ _ _ _ _ h => h
  have hhs : ∀ r x, hs r = some x → hs' r = some x := fun r x e => by
    by_cases e2 : r = 1000000000 + rin.length
    · rw [e2, hR.1] at e; cases e
    · rw [hs2 r e2]; exact e
  have M' : Mem X w (rin ++ [.arr s []]) hs' fp := by
    refine ⟨fun i t ht => ?_, fun r hr => ?_, M.disj, M.nodup, M.foreign, M.xold, fun r x hx => ?_⟩
    · rcases Nat.lt_or_ge i rin.length with h1 | h1
      · rw [List.getElem?_append_left h1] at ht
        obtain ⟨x, a, b, c⟩ := M.root i t ht
        exact ⟨x, hhs _ _ a, b, c⟩
      · have h2 : i = rin.length := by
          have := (List.getElem?_eq_some_iff.1 ht).1
          rw [List.length_append, List.length_singleton] at this; omega
        subst h2
        rw [List.getElem?_append_right (Nat.le_refl _), Nat.sub_self] at ht
        simp only [List.getElem?_cons_zero, Option.some.injEq] at ht
        subst ht
        exact ⟨_, hs1, by rw [hR.2]; exact .arrNil s, rfl⟩
    · rw [List.length_append, List.length_singleton] at hr
      rw [hs2 r (by omega)]
      exact M.none r (by omega)
    · by_cases e2 : r = 1000000000 + rin.length
      · rw [e2, hs1] at hx; cases hx; rfl
      · rw [hs2 r e2] at hx; exact M.hdr r x hx
  refine (h X w vals hs' fp M' (hv.trans hl.symm) fun i h2 => ?_).mono ?_
  · have h1 : i < args.length := by omega
    rcases ha i h1 h2 with e | ⟨e1, e2⟩
    · rw [e]
      exact (hi i h1).mono (keep _ _) (fun _ h _ => h) hhs
    · have := hi i h1
      rw [e1] at this
      have := Is.v_inv this
      rw [e2, this]
      exact .own hs1
  · rintro e w' ⟨v, res, rout, fr, fp', rfl, hQ, hlen, out⟩
    rw [List.length_append, List.length_singleton] at hlen
    obtain ⟨o, t, rfl⟩ : ∃ o t, rout = o ++ [t] := ⟨rout.dropLast, rout.getLast (fun e => by rw [e] at hlen; simp at hlen), (List.dropLast_concat_getLast _).symm⟩
    rw [List.length_append, List.length_singleton] at hlen
    have hol : o.length = rin.length := by omega
    let fq : Nat → List Nat := fun r => if r = 1000000000 + rin.length then [] else fp' r
    have f1 : fq (1000000000 + rin.length) = [] := by show (if _ then _ else _) = _; rw [if_pos rfl]
    have f2 : ∀ r, r ≠ 1000000000 + rin.length → fq r = fp' r := fun r e => by show (if _ then _ else _) = _; rw [if_neg e]
    have sub : ∀ r b, b ∈ fq r → b ∈ fp' r := fun r b hb => by
      by_cases e : r = 1000000000 + rin.length
      · rw [e, f1] at hb; cases hb
      · rw [f2 r e] at hb; exact hb
    have hO : ∀ b, ¬ Ob' X fp' fr b → b < w'.heap.size → ¬ Ob' X fq fr b := fun b h _ h' => by
      rcases h' with (h' | ⟨r, h'⟩) | h'
      · exact h (.inl (.inl h'))
      · exact h (.inl (.inr ⟨r, sub r b h'⟩))
      · exact h (.inr h')
    refine ⟨v, res, o, fr, fq, rfl, ⟨t, hQ⟩, hol, fun i t' ht => ?_, fun r hr => ?_, out.res.mono (keep _ _) hO (keep _ _), fun r r' b h1 h2 => out.disj r r' b (sub r b h1) (sub r' b h2), fun r => ?_, out.rnodup, fun r b hb => out.rdisj r b (sub r b hb), fun r b hb => out.old r b (sub r b hb), out.rold, out.os, out.tape, out.output, out.size, out.frame⟩
    · have hi1 := (List.getElem?_eq_some_iff.1 ht).1
      obtain ⟨x, a, b, c⟩ := out.root i t' (by rw [List.getElem?_append_left hi1]; exact ht)
      refine ⟨x, ?_, ?_, c⟩
      · rw [← hs2 _ (show 1000000000 + i ≠ 1000000000 + rin.length by omega)]; exact a
      · rw [f2 _ (show 1000000000 + i ≠ 1000000000 + rin.length by omega)]
        exact b.mono (keep _ _) hO (keep _ _)
    · by_cases e : r = 1000000000 + rin.length
      · rw [e, f1]
      · rw [f2 r e]; exact out.none r (by rw [List.length_append, List.length_singleton]; omega)
    · by_cases e : r = 1000000000 + rin.length
      · rw [e, f1]; exact List.nodup_nil
      · rw [f2 r e]; exact out.nodup r
theorem cW_weakI {P : Program} {n : Nat} {c : CC} {Q : Exit → St → Prop} {S S' : St} (hw : Weak n S S') (h : cW P n c Q S') : cW P n (.weak c) Q S := ⟨S', hw, h⟩
section
attribute [-go_sem] cW.eq_10
attribute [-go_sem] load1C load1V fldC lenC idxC loadNV nilCheckW
set_option maxRecDepth 20000 in
set_option maxHeartbeats 1000000 in
theorem spec_l28Small_w (cs : List Int) (hc : bytesOK cs) (hl : cs.length ≤ 100000000000) (a : Nat × Int) (ha : seedOK a) : Fun Try.prog 149 [.box [bytes cs, .i a.1, .i a.2]] [.own 1000000000] fun o r => ∃ x : (Gm × Nat) × (Nat × Int), o = [.box [bytes cs, .i x.2.1, .i x.2.2]] ∧ r = smT x.1 ∧ smallG x.1.1 := by
  refine fun_spec_l28Small_h (by simp) ?_
  simp -implicitDefEqProofs only [go_sem, evR, ints, rows, rat, rats, c_spec_l28Small_h]
  refine CallW.ref (next_box cs hc hl a ha 4 (by omega)) [1000000000] [] rfl Try.call126 (by simp) ?_ (by simp) ?_ (.inl rfl) ?_
  · simp -implicitDefEqProofs only [srR, Nat.reduceEqDiff, ↓reduceIte, ints, rows, intsO, rowsO]
  · simp -implicitDefEqProofs only [agR, Nat.reduceLeDiff, Nat.reduceSub, vaR, go_sem, ints, rows, rat, rats, ratsO, rtR, intsO, rowsO]
  simp -implicitDefEqProofs only [clR, Nat.reduceLeDiff, go_sem, evR, rat]
  have hs1 := nextS_seed (cs := cs) hl ha 4
  generalize nextS cs a 4 = z at hs1 ⊢
  obtain ⟨k, b⟩ := z
  simp only [] at hs1 ⊢
  refine ⟨fun h0 => ?_, fun h0 => ⟨fun h1 => ?_, fun h1 => ?_⟩⟩
  · have hp := spec_l21Draw_w cs hc hl b hs1
    simp only [drawnG] at hp
    refine CallW.exi hp [1000000000] [] rfl Try.call190 (by simp) ?_ (by simp) ?_ (.inl rfl) (fun x hx => ?_)
    · simp -implicitDefEqProofs only [srR, Nat.reduceEqDiff, ↓reduceIte, ints, rows, intsO, rowsO]
    · simp -implicitDefEqProofs only [agR, Nat.reduceLeDiff, Nat.reduceSub, vaR, go_sem, ints, rows, rat, rats, ratsO, rtR, intsO, rowsO]
    obtain ⟨⟨g, bb⟩, d⟩ := x
    obtain ⟨hx1, hx2⟩ := hx
    simp only [] at hx1 hx2 ⊢
    cases bb
    · simp only [Bool.false_eq_true, if_false, rows, nodes]
      simp -implicitDefEqProofs only [clR, Nat.reduceLeDiff, go_sem, evR, rat, opR, Nat.reduceBEq]
      exact ⟨((g, 1), d), rfl, rfl, hx1⟩
    · simp only [if_true, rows, nodes]
      simp -implicitDefEqProofs only [clR, Nat.reduceLeDiff, go_sem, evR, rat, opR, Nat.reduceBEq]
      exact ⟨((g, 0), d), rfl, rfl, hx1⟩
  · refine CallW.ref (next_box cs hc hl b hs1 3 (by omega)) [1000000000] [] rfl Try.call126 (by simp) ?_ (by simp) ?_ (.inl rfl) ?_
    · simp -implicitDefEqProofs only [srR, Nat.reduceEqDiff, ↓reduceIte, ints, rows, intsO, rowsO]
    · simp -implicitDefEqProofs only [agR, Nat.reduceLeDiff, Nat.reduceSub, vaR, go_sem, ints, rows, rat, rats, ratsO, rtR, intsO, rowsO]
    simp -implicitDefEqProofs only [clR, Nat.reduceLeDiff, go_sem, evR, rat]
    have hs2 := nextS_seed (cs := cs) hl hs1 3
    have hb2 := nextS_bound (cs := cs) (a := b) (n := 3) (by omega)
    generalize nextS cs b 3 = z at hs2 hb2 ⊢
    obtain ⟨q, d⟩ := z
    simp only [] at hs2 hb2 ⊢
    rw [wrap64 (n := 1 + q) (by omega) (by omega)]
    obtain ⟨l', hl1, hl2, hp⟩ := spec_BetTree_w 1 (1 + q) 0 (by omega) (by omega) (by omega) (by omega) (by omega)
    simp only [show ((0 : Nat) : Int) = 0 from rfl, nodesO] at hp
    refine CallW.res hp [] rfl Try.call184 ?_ (.inl rfl) ?_
    · simp -implicitDefEqProofs only [agR, Nat.reduceLeDiff, Nat.reduceSub, vaR, go_sem, ints, rows, rat, rats, ratsO, rtR, intsO, rowsO]
    simp -implicitDefEqProofs only [clR, Nat.reduceLeDiff, go_sem, evR, rat, opR, Nat.reduceBEq]
    have hq := spec_l21HighCard_w l' ⟨by have := hl1.1; omega, hl1.2⟩ 1 (by omega) true
    simp only [treeT, nodes, gameO, nodesO, rowsO, show ((1 : Nat) : Int) = 1 from rfl] at hq
    refine CallW.exi hq [] [23001] rfl Try.call185 (by simp) ?_ (by simp) ?_ (.inr (fun g => ⟨gameO_noSh g, trivial⟩)) (fun g hg => ?_)
    · simp -implicitDefEqProofs only [srR, Nat.reduceEqDiff, ↓reduceIte, ints, rows, intsO, rowsO]
    · simp -implicitDefEqProofs only [agR, Nat.reduceLeDiff, Nat.reduceSub, vaR, go_sem, ints, rows, rat, rats, ratsO, rtR, intsO, rowsO]
    simp -implicitDefEqProofs only [clR, Nat.reduceLeDiff, go_sem, evR, rat, opR, Nat.reduceBEq]
    obtain ⟨g1, g2, g3, g4, g5⟩ := hg
    exact ⟨((g, 2), d), rfl, rfl, drG_small ⟨⟨by rw [g1]; have := hl1.1; omega, by rw [g1]; exact hl1.2⟩, 1, by omega, by omega, ⟨g2, g3⟩, ⟨g4, g5⟩⟩⟩
  · obtain ⟨f1, f2, f3⟩ := rndF_ok (cs := cs) hl 2 [] b hs1 (by simp)
    have hp := spec_l20Random_ok cs hc hl 1000 (by omega) 2 [] b hs1 ⟨by simp, by simp⟩ (by decide)
    simp only [nodesO, chunk_nil, show ((2 : Nat) : Int) = 2 from rfl] at hp
    generalize rndF cs 2 ([], b) = z at f1 f2 f3 hp
    obtain ⟨l, d⟩ := z
    simp only [] at f1 f2 f3 hp
    have hp := Fun.post (Q' := fun o r => o = [.box [bytes cs, .i d.1, .i d.2]] ∧ r = .arr 5 (chunk nodeCO l)) (Fun.nilArg (rin := [.box [bytes cs, .i b.1, .i b.2]]) (args := [.own 1000000000, .t (.v (.slice none 0 0)), .t (.i 2)]) hp rfl (fun i h1 h2 => match i, h1 with
      | 0, _ => .inl rfl
      | 1, _ => .inr ⟨rfl, rfl⟩
      | 2, _ => .inl rfl)) (fun o r h => by
        obtain ⟨t, h, e⟩ := h
        refine ⟨?_, e⟩
        rcases o with _ | ⟨x, _ | ⟨y, o⟩⟩
        · simp at h
        · simp at h; rw [h.1]
        · simp at h)
    refine CallW.ref hp [1000000000] [] rfl Try.call199 (by simp) ?_ (by simp) ?_ (.inl rfl) ?_
    · simp -implicitDefEqProofs only [srR, Nat.reduceEqDiff, ↓reduceIte, ints, rows, intsO, rowsO]
    · simp -implicitDefEqProofs only [agR, Nat.reduceLeDiff, Nat.reduceSub, vaR, go_sem, ints, rows, rat, rats, ratsO, rtR, intsO, rowsO]
    simp -implicitDefEqProofs only [clR, Nat.reduceLeDiff, go_sem, evR, rat]
    refine CallW.ref (next_box cs hc hl d f3 2 (by omega)) [1000000000] [] rfl Try.call126 (by simp) ?_ (by simp) ?_ (.inl rfl) ?_
    · simp -implicitDefEqProofs only [srR, Nat.reduceEqDiff, ↓reduceIte, ints, rows, intsO, rowsO]
    · simp -implicitDefEqProofs only [agR, Nat.reduceLeDiff, Nat.reduceSub, vaR, go_sem, ints, rows, rat, rats, ratsO, rtR, intsO, rowsO]
    simp -implicitDefEqProofs only [clR, Nat.reduceLeDiff, go_sem, evR, rat, opR, Nat.reduceBEq]
    have hs2 := nextS_seed (cs := cs) hl f3 2
    have hb2 := nextS_bound (cs := cs) (a := d) (n := 2) (by omega)
    generalize nextS cs d 2 = z at hs2 hb2 ⊢
    obtain ⟨q, d2⟩ := z
    simp only [] at hs2 hb2 ⊢
    obtain ⟨k, hk⟩ : ∃ n : Nat, IntKind.i64.wrap (1 + q) = n := ⟨(1 + q).toNat, by rw [wrap64 (by omega) (by omega)]; omega⟩
    have hk3 : 1 ≤ k ∧ k ≤ 2 := by rw [wrap64 (by omega) (by omega)] at hk; omega
    simp only [hk]
    have hl101 : smallN 101 l := ⟨Nat.le_trans f1.1 (by decide), f1.2⟩
    have hq := spec_l21HighCard_w l hl101 k (by omega) true
    simp only [treeT, nodes, gameO, nodesO, rowsO] at hq
    refine CallW.exi hq [] [25] rfl Try.call185 (by simp) ?_ (by simp) ?_ (.inr (fun g => ⟨gameO_noSh g, trivial⟩)) (fun g hg => ?_)
    · simp -implicitDefEqProofs only [srR, Nat.reduceEqDiff, ↓reduceIte, ints, rows, intsO, rowsO]
    · simp -implicitDefEqProofs only [agR, Nat.reduceLeDiff, Nat.reduceSub, vaR, go_sem, ints, rows, rat, rats, ratsO, rtR, intsO, rowsO]
    refine hideK (p := fun k => afterCall _ _ _ _ _ (opsW _ _ _ k)) _ (fun kc hkc => ?_)
    simp -implicitDefEqProofs only [clR, Nat.reduceLeDiff, go_sem, evR, rat, opR, Nat.reduceBEq]
    rw [← hkc]
    clear hkc
    simp -implicitDefEqProofs only [go_sem, evR, ints, rows, rat, rats, opR, Nat.reduceBEq]
    obtain ⟨g1, g2, g3, g4, g5⟩ := hg
    refine CallW.ref (next_box cs hc hl d2 hs2 2 (by omega)) [1000000000] [] rfl Try.call126 (by simp) ?_ (by simp) ?_ (.inl rfl) ?_
    · simp -implicitDefEqProofs only [srR, Nat.reduceEqDiff, ↓reduceIte, ints, rows, intsO, rowsO]
    · simp -implicitDefEqProofs only [agR, Nat.reduceLeDiff, Nat.reduceSub, vaR, go_sem, ints, rows, rat, rats, ratsO, rtR, intsO, rowsO]
    simp -implicitDefEqProofs only [clR, Nat.reduceLeDiff, go_sem, evR, rat, opR, Nat.reduceBEq]
    have hs3 := nextS_seed (cs := cs) hl hs2 2
    generalize nextS cs d2 2 = z at hs3 ⊢
    obtain ⟨q3, d3⟩ := z
    simp only [] at hs3 ⊢
    obtain ⟨r0, hr0, hr0l⟩ := matOK_get (k := k) ⟨g2, g3⟩ (a := 0) (by omega)
    refine ⟨fun h3 => ?_, fun h3 => ?_⟩
    · have hany : ((g.w.map intsO).set 0 T.any)[0]? = some .any := by rw [List.getElem?_set_self (by rw [List.length_map]; omega)]
      refine cW_weakI (Weak.trans (Weak.open 6 1 501 rfl rfl rfl (by decide) rfl) (Weak.open 501 0 502 (l := g.w.map intsO) (lk := []) (c := intsO r0) rfl (by rw [List.getElem?_map, hr0]; rfl) rfl (by decide) rfl)) ?_
      simp -implicitDefEqProofs only [go_sem, evR, ints, rows, rat, rats, List.lookup_cons, beq_self_eq_true, intsO, List.length_set, List.length_map, hr0, opR, Nat.reduceBEq]
      refine ⟨by omega, by omega, ?_⟩
      refine CallH.ref (next_box cs hc hl d3 hs3 5 (by omega)) [1000000000] [] rfl Try.call126 (by simp) ?_ (by simp) (fun e R' hR => ?_) (.inl rfl) ?_
      · simp -implicitDefEqProofs only [srR, Nat.reduceEqDiff, ↓reduceIte, ints, rows, intsO, rowsO]
      · simp -implicitDefEqProofs only [agR, Nat.reduceLeDiff, Nat.reduceSub, vaR, go_sem, ints, rows, rat, rats, ratsO, rtR, intsO, rowsO]
      simp -implicitDefEqProofs only [clR, Nat.reduceLeDiff, go_sem, evR, rat]
      have hs4 := nextS_seed (cs := cs) hl hs3 5
      have hb4 := nextS_bound (cs := cs) (a := d3) (n := 5) (by omega)
      generalize nextS cs d3 5 = z at hs4 hb4 ⊢
      obtain ⟨v, d4⟩ := z
      simp only [] at hs4 hb4 ⊢
      rw [wrap64 (n := 1 + v) (by omega) (by omega)]
      have hrow : ((g.w.map intsO).set 0 T.any).set 0 (.arr 1 ((r0.map T.i).set 0 (.i (1 + v)))) = (g.w.set 0 (r0.set 0 (1 + v))).map intsO := by
        rw [List.set_set, List.map_set, intsO, List.map_set]
      refine ⟨⟨by omega, by omega, cW_weakI (Weak.trans (Weak.close1 501 0 502 rfl rfl (by decide) hany) (Weak.trans (Weak.close1 6 1 501 rfl rfl (by decide) rfl) (Weak.of [(0, .own 1000000000), (2, .own 2), (6, .own 6)] [(1000000000, .box [bytes cs, .i d4.1, .i d4.2]), (2, .box [.v (.slice none 0 0), .v (.slice none 0 0), .v (.slice none 0 0)]), (6, .box [.arr 5 (chunk nodeCO g.nd), .arr 1 ((g.w.set 0 (r0.set 0 (1 + v))).map intsO), .arr 1 (g.v.map intsO)])] [some 1000000000, some 2, some 6] (by simp) (by simp) ?_ ?_))) ?_⟩, (frameOK.refl _ _ _).upd _ (.inl (by simp))⟩
      · simp -implicitDefEqProofs only [ints, rows, Nat.reduceBEq, wkR, Nat.reduceEqDiff, ↓reduceIte, wrR]
      · refine ⟨⟨_, rfl, .refl _⟩, rfl, ⟨_, rfl, .refl _⟩, rfl, ⟨_, rfl, ?_⟩, rfl, trivial⟩
        rw [← hrow]; exact .refl _
      simp -implicitDefEqProofs only [go_sem, evR, ints, rows, rat, rats, opR, Nat.reduceBEq]
      exact ⟨((⟨g.nd, g.w.set 0 (r0.set 0 (1 + v)), g.v⟩, 2), d4), rfl, rfl, drG_small ⟨by show smallN 101 g.nd; rw [g1]; exact hl101, k, by omega, by omega, matOK_set ⟨g2, g3⟩ _ (by rw [List.length_set]; exact hr0l), ⟨g4, g5⟩⟩⟩
    · refine cW_weakI (Weak.refl _ _) ?_
      simp -implicitDefEqProofs only [go_sem, evR, ints, rows, rat, rats, opR, Nat.reduceBEq]
      exact ⟨((g, 2), d3), rfl, rfl, drG_small ⟨by rw [g1]; exact hl101, k, by omega, by omega, ⟨g2, g3⟩, ⟨g4, g5⟩⟩⟩
theorem spec_DrawTableOf_w (cs : List Int) (hc : bytesOK cs) (hl : cs.length ≤ 100000000000) : Fun Try.prog 83 [] [.t (bytes cs)] fun o r => ∃ x : Gm × Nat, o = [] ∧ r = smT x ∧ smallG x.1 := by
  refine fun_spec_DrawTableOf (by simp) ?_
  simp -implicitDefEqProofs only [go_sem, evR, ints, rows, rat, rats, c_spec_DrawTableOf]
  refine CallW.res (spec_l01From_ok cs hc (by omega)) [] rfl Try.call119 ?_ (.inl rfl) ?_
  · simp -implicitDefEqProofs only [agR, Nat.reduceLeDiff, Nat.reduceSub, vaR, go_sem, ints, rows, rat, rats, ratsO, rtR, intsO, rowsO]
  simp -implicitDefEqProofs only [clR, Nat.reduceLeDiff, go_sem, evR, rat, srcT]
  have hs0 := seed_from (cs.take 64)
  generalize fromS (cs.take 64) = sd at hs0 ⊢
  have hp := spec_l28Small_w cs hc hl (0, sd) hs0
  refine CallW.exi hp [4] [] rfl Try.call149 (by simp) ?_ (by simp) ?_ (.inl rfl) (fun x hx => ?_)
  · simp -implicitDefEqProofs only [srR, Nat.reduceEqDiff, ↓reduceIte, ints, rows, intsO, rowsO]
  · simp -implicitDefEqProofs only [agR, Nat.reduceLeDiff, Nat.reduceSub, vaR, go_sem, ints, rows, rat, rats, ratsO, rtR, intsO, rowsO]
  obtain ⟨⟨g, n⟩, d⟩ := x
  (try simp only [] at hx)
  by_cases h2 : n = 2
  · subst h2
    simp only [smT, if_true, nodesO, rowsO]
    simp -implicitDefEqProofs only [clR, Nat.reduceLeDiff, go_sem, evR, rat, opR, Nat.reduceBEq]
    exact ⟨(g, 2), rfl, hx⟩
  · by_cases h0 : n = 0
    · subst h0
      simp only [smT, if_true, if_neg h2, nodes, rows]
      simp -implicitDefEqProofs only [clR, Nat.reduceLeDiff, go_sem, evR, rat, opR, Nat.reduceBEq]
      exact ⟨(g, 0), rfl, hx⟩
    · simp only [smT, if_neg h2, if_neg h0, nodes, rows]
      simp -implicitDefEqProofs only [clR, Nat.reduceLeDiff, go_sem, evR, rat, opR, Nat.reduceBEq]
      exact ⟨(g, 1), rfl, hx⟩
end
end Go.Ab

/- Contracts: small functions of the laws: lists, strategies and claims alike. -/
set_option linter.unusedSimpArgs false
set_option linter.unusedVariables false
namespace Go.Ab
open Go.Proofs

theorem laws_big_ok (cs : List Int) : Pure Try.prog 51 [bytes cs] (.b (decide ((cs.length : Int) > 4096))) := by
  refine fun_laws_big (by simp) ?_
  simp -implicitDefEqProofs only [go_sem, evR, ints, rows, rat, rats, c_laws_big, bytes]
theorem laws_likeInts_ok (a b : List Int) (ha : a.length ≤ 1000000000000) (hb : b.length ≤ 1000000000000) : Pure Try.prog 94 [ints a, ints b] (.b (decide (a = b))) := by
  refine fun_laws_likeInts (by simp) ?_
  simp -implicitDefEqProofs only [c_laws_likeInts, ints, go_sem]
  refine ⟨fun h => ?_, fun h => ?_⟩
  · have : a ≠ b := by rintro rfl; simp at h
    simp [this]
  · have hab : a.length = b.length := by simp at h; omega
    refine SemC.loopR (σ := Nat) (fun i => St.of [(0, .t (ints a)), (1, .t (ints b)), (5, .t (.i i))] []) (fun i => i ≤ a.length ∧ ∀ j, j < i → a[j]? = b[j]?) (fun i => a.length - i) 0 (Weak.of _ [] [] (by simp) (by simp) ?_ trivial) ⟨by simp, fun j hj => by omega⟩ fun i hI R hn hr he => ?_
    · simp -implicitDefEqProofs only [ints, wkR, Nat.reduceEqDiff, ↓reduceIte]
    · simp -implicitDefEqProofs only [ints, go_sem, toNat_cast]
      refine ⟨fun h => ⟨by omega, by omega, by omega, fun c x hx hc => ⟨by omega, by omega, by omega, fun c' y hy hc' => ?_⟩⟩, fun h => he _ _ ?_⟩
      · subst hc hc'
        simp -implicitDefEqProofs only [go_sem]
        refine ⟨fun h1 => hr _ ?_, fun h1 => hn _ (i + 1) (Weak.of _ [] [] (by simp) (by simp) ?_ trivial) ⟨by omega, fun j hj => ?_⟩ (by omega)⟩
        · simp -implicitDefEqProofs only [go_sem]
          have : a ≠ b := by rintro rfl; rw [hx] at hy; cases hy; simp at h1
          simp [this]
        · simp -implicitDefEqProofs only [ints, wkR, Nat.reduceEqDiff, ↓reduceIte, next64 (by omega : i < a.length) ha]
        · rcases Nat.lt_or_ge j i with h | h
          · exact hI.2 j h
          · have : j = i := by omega
            subst this
            rw [hx, hy]; simpa using h1
      · simp -implicitDefEqProofs only [go_sem]
        have : a = b := by
          refine List.ext_getElem? fun j => ?_
          rcases Nat.lt_or_ge j i with h | h
          · exact hI.2 j h
          · rw [List.getElem?_eq_none (by omega), List.getElem?_eq_none (by omega)]
        simp [this]
theorem laws_likeLists_ok (a b : List (List Int)) (ha : a.length ≤ 1000000000000) (hb : b.length ≤ 1000000000000) (hra : ∀ r ∈ a, r.length ≤ 1000000000000) (hrb : ∀ r ∈ b, r.length ≤ 1000000000000) :
    Pure Try.prog 84 [rows a, rows b] (.b (decide (a = b))) := by
  refine fun_laws_likeLists (by simp) ?_
  simp -implicitDefEqProofs only [c_laws_likeLists, rows, go_sem]
  refine ⟨fun h => ?_, fun h => ?_⟩
  · have : a ≠ b := by rintro rfl; simp at h
    simp [this]
  · have hab : a.length = b.length := by simp at h; omega
    refine SemC.loopR (σ := Nat) (fun i => St.of [(0, .t (rows a)), (1, .t (rows b)), (5, .t (.i i))] []) (fun i => i ≤ a.length ∧ ∀ j, j < i → a[j]? = b[j]?) (fun i => a.length - i) 0 (Weak.of _ [] [] (by simp) (by simp) ?_ trivial) ⟨by simp, fun j hj => by omega⟩ fun i hI R hn hr he => ?_
    · simp -implicitDefEqProofs only [rows, wkR, Nat.reduceEqDiff, ↓reduceIte]
    · simp -implicitDefEqProofs only [rows, go_sem, toNat_cast]
      refine ⟨fun h => ⟨by omega, by omega, by omega, fun c x hx hc => ⟨by omega, by omega, by omega, fun c' y hy hc' => ?_⟩⟩, fun h => he _ _ ?_⟩
      · subst hc hc'
        refine CallV.pure (laws_likeInts_ok x y (hra x (List.mem_of_getElem? hx)) (hrb y (List.mem_of_getElem? hy))) [] rfl Try.call94 (fun e R' _ => ?_) trivial (fun _ => rfl) ?_
        · simp -implicitDefEqProofs only [vaR, go_sem]
        · simp -implicitDefEqProofs only [go_sem]
          refine ⟨fun h1 => hr _ ?_, fun h1 => hn _ (i + 1) (Weak.of _ [] [] (by simp) (by simp) ?_ trivial) ⟨by omega, fun j hj => ?_⟩ (by omega)⟩
          · simp -implicitDefEqProofs only [go_sem]
            have : a ≠ b := by rintro rfl; rw [hx] at hy; cases hy; simp at h1
            simp [this]
          · simp -implicitDefEqProofs only [rows, wkR, Nat.reduceEqDiff, ↓reduceIte, next64 (by omega : i < a.length) ha]
          · rcases Nat.lt_or_ge j i with h | h
            · exact hI.2 j h
            · have : j = i := by omega
              subst this
              rw [hx, hy]; simpa using h1
      · simp -implicitDefEqProofs only [go_sem]
        have : a = b := by
          refine List.ext_getElem? fun j => ?_
          rcases Nat.lt_or_ge j i with h | h
          · exact hI.2 j h
          · rw [List.getElem?_eq_none (by omega), List.getElem?_eq_none (by omega)]
        simp [this]
section
attribute [-go_sem] load1C load1V fldC lenC idxC loadNV nilCheckW
end
end Go.Ab

/- The law FnTables. -/
set_option linter.unusedSimpArgs false
set_option linter.unusedVariables false
namespace Go.Ab
open Go.Proofs
theorem tables_key (g : Gm) : (∃ c, c ≠ 0 ∧ (tabR g).2 = c ∧ pbR g = (0, 0, c) ∧ peR g = (0, 0, c)) ∨ (∃ lo hi i k c2, (tabR g).2 = 0 ∧ pbR g = (lo, hi, 0) ∧ peR g = (i, k, c2) ∧ lo ≤ hi ∧ ((c2 = 0 ∧ lo = hi ∧ ∃ (a b : Nat) (r : List Int), i = a ∧ k = b ∧ (tabR g).1[a]? = some r ∧ r[b]? = some lo) ∨ (c2 = 4 ∧ lo ≠ hi))) := by
  rcases Bool.eq_false_or_eq_true (isGameB g) with hgb | hgb
  · by_cases hb : nPure g 0 ≤ 16 ∧ nPure g 1 ≤ 16
    · refine .inr ?_
      obtain ⟨s1, s2, s3, s4, s5, s6⟩ := tabM_shape hgb hb
      obtain ⟨l1, l2⟩ := table_law s1 s4 s3
      have h1 := pbR_ok hgb hb
      have h2 := peR_ok hgb hb
      have h3 := tabR_ok hgb hb
      rw [← lowT, ← highT] at h1
      rw [h1, h2, h3]
      generalize lowT (tabM g) = lo at *
      generalize highT (tabM g) (nPure g 1).toNat = hi at *
      rcases l2 with ⟨i, k, e1, e2, e3, e4, e5⟩ | ⟨e1, e2⟩
      · refine ⟨lo, hi, (i : Int), (k : Int), 0, rfl, rfl, e3, l1, .inl ⟨rfl, e5, i, k, (tabM g)[i], rfl, rfl, List.getElem?_eq_getElem e1, ?_⟩⟩
        rw [ent_row s3 (List.getElem?_eq_getElem e1) e2, e4]
      · exact ⟨lo, hi, 0, 0, 4, rfl, rfl, e1, l1, .inr ⟨rfl, e2⟩⟩
    · exact .inl ⟨3, by decide, by rw [tabR_big hgb hb], pbR_no (tabR_big hgb hb) (by decide), peR_no (tabR_big hgb hb) (by decide)⟩
  · exact .inl ⟨1, by decide, by rw [tabR_bad hgb], pbR_no (tabR_bad hgb) (by decide), peR_no (tabR_bad hgb) (by decide)⟩
section
attribute [-go_sem] load1C load1V fldC lenC idxC loadNV nilCheckW
set_option maxRecDepth 20000 in
theorem laws_FnTables_ok (cs : List Int) (hc : bytesOK cs) : Pure Try.prog 16 [bytes cs] (.b true) := by
  refine fun_laws_FnTables_h (by simp) ?_
  simp -implicitDefEqProofs only [go_sem, evR, ints, rows, rat, rats, c_laws_FnTables_h]
  refine CallW.pure (laws_big_ok cs) [] rfl Try.call51 ?_ (by first | trivial | simp [T.noSh, T.noShL, rat]) rfl ?_
  · simp -implicitDefEqProofs only [agR, Nat.reduceLeDiff, Nat.reduceSub, vaR, go_sem, ints, rows, rat, rats, ratsO, rtR, intsO, rowsO]
  simp -implicitDefEqProofs only [go_sem, evR, ints, rows, rat, rats]
  refine ⟨fun _ => trivial, fun hbig => ?_⟩
  have hl : cs.length ≤ 4096 := by have : (cs.length : Int) ≤ 4096 := by simpa using hbig
                                   omega
  have hp := spec_DrawTableOf_w cs hc (by omega)
  refine CallW.exi hp [] [] rfl Try.call83 (by simp) ?_ (by simp) ?_ (.inl rfl) (fun x hx => ?_)
  · simp -implicitDefEqProofs only [srR, Nat.reduceEqDiff, ↓reduceIte, ints, rows, intsO, rowsO]
  · simp -implicitDefEqProofs only [agR, Nat.reduceLeDiff, Nat.reduceSub, vaR, go_sem, ints, rows, rat, rats, ratsO, rtR, intsO, rowsO]
  obtain ⟨g, n⟩ := x
  (try simp only [] at hx)
  apply two_usesU
  rotate_left
  · intro tail
    by_cases h2 : n = 2
    · subst h2
      simp only [smT, if_true, nodesO, rowsO]
      refine hideK (p := fun k => afterCall _ _ _ _ _ (opsW _ _ _ k)) _ (fun kc hkc => ?_)
      simp -implicitDefEqProofs only [clR, Nat.reduceLeDiff, go_sem, evR, rat, opR, Nat.reduceBEq]
      rw [← hkc]
      refine ⟨St.of [(3, .t (.pin [.sh 5 (chunk nodeC g.nd), rows g.w, rows g.v] 0))] [], Weak.trans (Weak.share 3 rfl) (Weak.of _ _ [] (by simp) (by simp) ?_ ?_), tail⟩
      · simp -implicitDefEqProofs only [ints, rows, Nat.reduceBEq, wkR, Nat.reduceEqDiff, ↓reduceIte, wrR, shareA, T.toSh, T.toShL, nodes, toShL_nodes, toShL_intsO]
      · exact trivial
    · by_cases h0 : n = 0
      · subst h0
        simp only [smT, if_true, if_neg h2, nodes, rows]
        refine hideK (p := fun k => afterCall _ _ _ _ _ (opsW _ _ _ k)) _ (fun kc hkc => ?_)
        simp -implicitDefEqProofs only [clR, Nat.reduceLeDiff, go_sem, evR, rat, opR, Nat.reduceBEq]
        rw [← hkc]
        refine ⟨St.of [(3, .t (.pin [.sh 5 (chunk nodeC g.nd), rows g.w, rows g.v] 0))] [], Weak.trans (Weak.share 3 rfl) (Weak.of _ _ [] (by simp) (by simp) ?_ ?_), tail⟩
        · simp -implicitDefEqProofs only [ints, rows, Nat.reduceBEq, wkR, Nat.reduceEqDiff, ↓reduceIte, wrR, shareA, T.toSh, T.toShL, nodes, toShL_chunkC]
        · exact trivial
      · simp only [smT, if_neg h2, if_neg h0, nodes, rows]
        refine hideK (p := fun k => afterCall _ _ _ _ _ (opsW _ _ _ k)) _ (fun kc hkc => ?_)
        simp -implicitDefEqProofs only [clR, Nat.reduceLeDiff, go_sem, evR, rat, opR, Nat.reduceBEq]
        rw [← hkc]
        refine ⟨St.of [(3, .t (.pin [.sh 5 (chunk nodeC g.nd), rows g.w, rows g.v] 0))] [], Weak.trans (Weak.share 3 rfl) (Weak.of _ _ [] (by simp) (by simp) ?_ ?_), tail⟩
        · simp -implicitDefEqProofs only [ints, rows, Nat.reduceBEq, wkR, Nat.reduceEqDiff, ↓reduceIte, wrR, shareA, T.toSh, T.toShL, nodes, toShL_chunkC]
        · exact trivial
  simp -implicitDefEqProofs only [go_sem, evR, ints, rows, rat, rats, opR, Nat.reduceBEq]
  have hg := smallG_L hx
  have hr := tabR_rowsS g
  have hq := impl_TableOf_ok g hg
  simp only [gameT, nodes, rows, twO, rowsO] at hq
  refine CallW.res hq [] rfl Try.call23 ?_ (.inl rfl) ?_
  · simp -implicitDefEqProofs only [agR, Nat.reduceLeDiff, Nat.reduceSub, vaR, go_sem, ints, rows, rat, rats, ratsO, rtR, intsO, rowsO]
  refine hideK (p := fun k => afterCall _ _ _ _ _ (opsW _ _ _ k)) _ (fun kc hkc => ?_)
  simp -implicitDefEqProofs only [clR, Nat.reduceLeDiff, go_sem, evR, rat, opR, Nat.reduceBEq]
  rw [← hkc]
  clear hkc
  simp -implicitDefEqProofs only [go_sem, evR, ints, rows, rat, rats, opR, Nat.reduceBEq]
  have hq := spec_TableOf_ok g hg
  simp only [gameT, nodes, rows, twO, rowsO] at hq
  refine CallW.res hq [] rfl Try.call21 ?_ (.inl rfl) ?_
  · simp -implicitDefEqProofs only [agR, Nat.reduceLeDiff, Nat.reduceSub, vaR, go_sem, ints, rows, rat, rats, ratsO, rtR, intsO, rowsO]
  refine hideK (p := fun k => afterCall _ _ _ _ _ (opsW _ _ _ k)) _ (fun kc hkc => ?_)
  simp -implicitDefEqProofs only [clR, Nat.reduceLeDiff, go_sem, evR, rat, opR, Nat.reduceBEq]
  rw [← hkc]
  clear hkc
  simp -implicitDefEqProofs only [go_sem, evR, ints, rows, rat, rats, opR, Nat.reduceBEq]
  have hr12 := rowsS_12 hr
  have hll := laws_likeLists_ok (tabR g).1 (tabR g).1 hr12.1 hr12.1 hr12.2 hr12.2
  simp only [rows, decide_true] at hll
  have hq1 := impl_PureBounds_ok g hg
  have hq2 := spec_PureBounds_ok g hg
  have hq3 := impl_PureEquilibrium_ok g hg
  have hq4 := spec_PureEquilibrium_ok g hg
  refine CallW.weak (Weak.trans (Weak.share 26 rfl) (Weak.trans (Weak.share 31 rfl) (Weak.of [(3, .t (.pin [.sh 5 (chunk nodeC g.nd), rows g.w, rows g.v] 0)), (4, .t (rows (tabR g).1)), (5, .t (.i (tabR g).2)), (6, .t (rows (tabR g).1)), (7, .t (.i (tabR g).2)), (35, .t (.agg [.sh 5 (chunk nodeC g.nd), rows g.w, rows g.v]))] [] [] (by simp) (by simp) ?_ ?_))) ?_
  · simp -implicitDefEqProofs only [ints, rows, Nat.reduceBEq, wkR, Nat.reduceEqDiff, ↓reduceIte, wrR, shareA, T.toSh, T.toShL, nodes, toShL_intsO]
  · exact trivial
  have key := tables_key g
  generalize (tabR g).2 = code at key ⊢
  generalize (tabR g).1 = m at key hll ⊢
  generalize pbR g = pb at key hq1 hq2
  generalize peR g = pe at key hq3 hq4
  obtain ⟨b1, b2, b3⟩ := pb
  obtain ⟨e1, e2, e3⟩ := pe
  simp only [gameT, nodes, rows, tr3] at hq1 hq2 hq3 hq4
  refine CallW.pure hq1 [] rfl Try.call32 ?_ (by first | trivial | simp [T.noSh, T.noShL, rat]) rfl ?_
  · simp -implicitDefEqProofs only [agR, Nat.reduceLeDiff, Nat.reduceSub, vaR, go_sem, ints, rows, rat, rats, ratsO, rtR, intsO, rowsO]
  simp -implicitDefEqProofs only [go_sem, evR, ints, rows, rat, rats, nodes]
  refine CallW.pure hq2 [] rfl Try.call31 ?_ (by first | trivial | simp [T.noSh, T.noShL, rat]) rfl ?_
  · simp -implicitDefEqProofs only [agR, Nat.reduceLeDiff, Nat.reduceSub, vaR, go_sem, ints, rows, rat, rats, ratsO, rtR, intsO, rowsO]
  simp -implicitDefEqProofs only [go_sem, evR, ints, rows, rat, rats]
  refine CallW.pure hq3 [] rfl Try.call30 ?_ (by first | trivial | simp [T.noSh, T.noShL, rat]) rfl ?_
  · simp -implicitDefEqProofs only [agR, Nat.reduceLeDiff, Nat.reduceSub, vaR, go_sem, ints, rows, rat, rats, ratsO, rtR, intsO, rowsO]
  simp -implicitDefEqProofs only [go_sem, evR, ints, rows, rat, rats]
  refine CallW.pure hq4 [] rfl Try.call29 ?_ (by first | trivial | simp [T.noSh, T.noShL, rat]) rfl ?_
  · simp -implicitDefEqProofs only [agR, Nat.reduceLeDiff, Nat.reduceSub, vaR, go_sem, ints, rows, rat, rats, ratsO, rtR, intsO, rowsO]
  simp -implicitDefEqProofs only [go_sem, evR, ints, rows, rat, rats, bne_self_eq_false]
  refine CallW.pure hll [] rfl Try.call84 ?_ (by first | trivial | simp [T.noSh, T.noShL, rat]) rfl ?_
  · simp -implicitDefEqProofs only [agR, Nat.reduceLeDiff, Nat.reduceSub, vaR, go_sem, ints, rows, rat, rats, ratsO, rtR, intsO, rowsO]
  simp -implicitDefEqProofs only [go_sem, evR, ints, rows, rat, rats, bne_self_eq_false, not_true_eq_false, decide_false, Bool.not_true]
  rcases key with ⟨c, k1, rfl, k2, k3⟩ | ⟨lo, hi, i, k, c2, rfl, k2, k3, k4, k5⟩
  · simp only [Prod.mk.injEq] at k2 k3
    obtain ⟨rfl, rfl, rfl⟩ := k2
    obtain ⟨rfl, rfl, rfl⟩ := k3
    exact ⟨fun _ => ⟨fun _ => by rw [beq_self_eq_true], fun h => absurd h (by simp)⟩, fun h => absurd h (by simpa using k1)⟩
  · simp only [Prod.mk.injEq] at k2 k3
    obtain ⟨rfl, rfl, rfl⟩ := k2
    obtain ⟨rfl, rfl, rfl⟩ := k3
    rcases k5 with ⟨rfl, rfl, a, b, r, rfl, rfl, q1, q2⟩ | ⟨rfl, q1⟩
    · refine ⟨fun h => absurd h (by decide), fun _ => ⟨fun _ => ⟨fun h => absurd h (by simp), fun _ => ⟨fun _ => ?_, fun h => absurd h (by decide)⟩⟩, fun h => absurd h (by omega)⟩⟩
      have h1 := (List.getElem?_eq_some_iff.1 q1).1
      have h2 := (List.getElem?_eq_some_iff.1 q2).1
      rw [Int.toNat_natCast]
      refine ⟨by omega, by omega, h1, ?_⟩
      simp -implicitDefEqProofs only [go_sem, evR, ints, rows, rat, rats, q1, q2, Option.map_some, Option.getD_some, List.getElem?_map, List.length_map]
      exact ⟨by omega, by omega, h2, by rw [beq_self_eq_true]⟩
    · exact ⟨fun h => absurd h (by decide), fun _ => ⟨fun _ => ⟨fun h => absurd h (by simp [q1]), fun _ => ⟨fun h => absurd h (by decide), fun _ => trivial⟩⟩, fun h => absurd h (by omega)⟩⟩
end
end Go.Ab

set_option linter.unusedSimpArgs false
set_option linter.unusedVariables false
namespace Go.Proofs.Ytkmmkgpnlmdcfaa
open Go.ChangeShapes Go.WideShapes Go.ChangeAt Go.RowKit Go.Ab

namespace fnTables
theorem said : ∀ xs, wtL [tyU8s] xs → Pure Try.prog 16 xs (.b true)
  | [x], h => by
    obtain ⟨cs, rfl, _, hc⟩ := wt_bytes h.1
    exact laws_FnTables_ok cs hc
  | [], h => h.elim
  | _ :: _ :: _, h => h.2.elim

set_option maxRecDepth 100000 in
theorem lifted (os : Os) (started : os.Started) (H : Type) (enc : TypeId × Value → H) :
    ReturnsInHanded {} Try.checked os 16 .any (Rows.fnTablesSpec.pre6 enc Try.prog Try.f16 Rows.fnTablesRow.domain false) (Rows.fnTablesSpec.post enc Try.prog Try.f16 false true false false) := by
  refine returnsInHanded_of_change (C := Try.checked) (by kernel_rfl) started (by kernel_rfl) Try.func16
    (ChangeSpec.witness6 (enc := enc) (C := Try.checked) false ⟨#[], #[.slice none 0 0], []⟩ 8 (by kernel_rfl) (by kernel_rfl) (by kernel_rfl) (by kernel_rfl)) ?_
  intro W base args ds gs before hval hW _ _
  refine law_contract (tys := [tyU8s]) (by kernel_rfl) (by kernel_rfl) rfl (by kernel_rfl) rfl (fun ds h => ?_) said W base args ds gs before hval hW
  match ds, h with
  | [d0], _ => rfl

theorem andT {a b : Bool} (ha : a = true) (hb : b = true) : (a && b) = true := by rw [ha, hb]; rfl
theorem joined0 : ((Rows.fnTablesRow.wf (OpenSpec.ofChange Rows.fnTablesSpec))) = true := by kernel_rfl
theorem joined1 : (laidOutB Try.prog) = true := Try.laidOutT
theorem joined2 : (mapsRowed Try.prog) = true := Try.mapsRowedT
theorem joined3 : (Try.f16.params.all (Try.prog.readableRec ·)) = true := by kernel_rfl
theorem joined4 : (namedTie Try.prog Rows.fnTablesRow.named Rows.fnTablesSpec.vars) = true := by kernel_rfl
theorem joined5 : ((Rows.fnTablesRow.stops == [])) = true := by kernel_rfl
theorem joined6 : ((Try.prog.stops == [])) = true := by kernel_rfl
theorem joined7 : ((Rows.fnTablesRow.knobs == [])) = true := by kernel_rfl
theorem joined8 : ((Try.prog.stopKnobs == [])) = true := by kernel_rfl
theorem joined9 : ((Rows.fnTablesRow.inPlace == Try.prog.inPlace 16)) = true := by kernel_rfl
theorem joined10 : ((Rows.fnTablesRow.unfollowed == Try.prog.unfollowed 16)) = true := by kernel_rfl
theorem joined11 : ((Rows.fnTablesRow.recurses == Try.prog.recurses 16)) = true := by kernel_rfl
theorem joined12 : ((Rows.fnTablesRow.named == Try.prog.varsNamed 16)) = true := by kernel_rfl
theorem joined13 : ((Rows.fnTablesRow.maps == (Try.f16.params.toList ++ Rows.fnTablesSpec.plain.varTypes Try.prog).any (Try.prog.mapsRec ·))) = true := by kernel_rfl
theorem joined14 : ((Rows.fnTablesRow.ifaces == (Try.f16.params.toList ++ Rows.fnTablesSpec.plain.varTypes Try.prog).any (Try.prog.ifacesRec ·))) = true := by kernel_rfl
theorem joined15 : ((Rows.fnTablesRow.mapsOut == Try.prog.mapsAmong Try.f16.resultTypes.toList)) = true := by kernel_rfl
theorem joined16 : ((Rows.fnTablesRow.loops == (Try.f16.params.toList ++ Rows.fnTablesSpec.plain.varTypes Try.prog).any (Try.prog.loopsFrom ·))) = true := by kernel_rfl
theorem joined17 : ((Rows.fnTablesRow.wideKeys == (Try.f16.params.toList ++ Rows.fnTablesSpec.plain.varTypes Try.prog ++ Try.f16.resultTypes.toList).any (Try.prog.wideKeysFrom ·))) = true := by kernel_rfl
theorem joined18 : (Rows.fnTablesSpec.vars.all (Try.prog.varReadable ·)) = true := by kernel_rfl
theorem joined19 : (Try.f16.resultTypes.all (fun t => Try.prog.readableRec t && decide (t < Try.prog.types.size))) = true := by kernel_rfl
theorem joined20 : ((Rows.fnTablesRow.ifacesOut == Try.f16.resultTypes.toList.any (Try.prog.ifacesRec ·))) = true := by kernel_rfl
theorem joined21 : ((Rows.fnTablesRow.loopsOut == Try.f16.resultTypes.toList.any (Try.prog.loopsFrom ·))) = true := by kernel_rfl
theorem joined22 : ((Rows.fnTablesRow.plainKeys == Try.prog.plainKeys)) = true := by kernel_rfl
theorem joined23 : (Rows.fnTablesRow.shortTexts.isNone) = true := by kernel_rfl
theorem joined24 : (Try.prog.stopsHeard) = true := Try.heardT
theorem joined25 : (Try.prog.mayEnter) = true := Try.mayEnterT
theorem joined26 : ((Rows.fnTablesRow.lifted == Try.prog.liftsFinal)) = true := (by rw [Try.liftsF]; rfl)
theorem joined27 : ((Try.prog.make == some Rows.fnTablesRow.make)) = true := (by rw [Try.makeC]; rfl)
theorem joined28 : ((Rows.fnTablesRow.kinds == (if Rows.fnTablesRow.domain.isEmpty then [] else Try.f16.params.toList.map fun t => match Try.prog.underlying t with | some (.int k) => some k | _ => none))) = true := by kernel_rfl
theorem joined29 : ((Rows.fnTablesRow.pinned == Rows.fnTablesRow.pinnedBy)) = true := by kernel_rfl
theorem joined30 : ((Rows.fnTablesRow.veiled == (Try.f16.params.toList ++ Rows.fnTablesSpec.plain.varTypes Try.prog ++ Try.f16.resultTypes.toList).any (Try.prog.veiledRec ·))) = true := by kernel_rfl
theorem joined31 : (Rows.fnTablesRow.veiledFits Try.prog Try.f16.params.toList (Try.f16.params.toList ++ Rows.fnTablesSpec.plain.varTypes Try.prog ++ Try.f16.resultTypes.toList)) = true := by kernel_rfl
set_option maxRecDepth 100000 in
theorem joined : joinedFacts Try.prog 16 Try.f16 Rows.fnTablesSpec Rows.fnTablesRow = true := by
  unfold joinedFacts
  exact andT (andT (andT (andT (andT (andT (andT (andT (andT (andT (andT (andT (andT (andT (andT (andT (andT (andT (andT (andT (andT (andT (andT (andT (andT (andT (andT (andT (andT (andT (andT (joined0) joined1) joined2) joined3) joined4) joined5) joined6) joined7) joined8) joined9) joined10) joined11) joined12) joined13) joined14) joined15) joined16) joined17) joined18) joined19) joined20) joined21) joined22) joined23) joined24) joined25) joined26) joined27) joined28) joined29) joined30) joined31
theorem over : Rows.fnTablesRow.holds Try.pinned (OpenSpec.ofChange Rows.fnTablesSpec) :=
  OpenClaim.holds_of_wide 16 Try.f16 rfl rfl rfl rfl rfl rfl rfl ⟨rfl, rfl, rfl, rfl, rfl⟩ rfl rfl rfl rfl rfl (by kernel_rfl) Try.func16 joined
    (of_decide_eq_true (by kernel_rfl)) (by unfold Func.isWrapper; first | (rw [if_pos (by decide +kernel)]; kernel_rfl) | (rw [if_neg (by decide +kernel)]; exact ⟨rfl, rfl⟩))
    (fun os started H enc _ => lifted os started H enc)
end fnTables

theorem fnTables_holds : Rows.FnTablesSaid := fnTables.over
#print axioms fnTables_holds
end Go.Proofs.Ytkmmkgpnlmdcfaa
