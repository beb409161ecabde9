/- The equities of all players add up to 1, and the leader has the greatest one: the law FnEquities returns true for every list of bytes. No conditions. -/
import Derived.Test.YtjeefbiiagflhaaRows
import Derived.Test.YtjeefbiiagflhaaQ7
set_option linter.unusedSimpArgs false
set_option linter.unusedVariables false
set_option maxRecDepth 20000
/- Contracts: drawn deals. -/
namespace Go.Ab
open Go.Proofs
section
attribute [-go_sem] q0i5 q0id fldC lenC idxC q0ip cW.eq_10
theorem q1s2 {P : Program} {n : Nat} {c : CC} {Q : Exit -> St -> Prop} {S S' : St} (hw : Weak n S S') (h : cW P n c Q S') : cW P n (.weak c) Q S := ⟨S', hw, h⟩
theorem q1u2 {X : Type} {A : Prop} {G : X -> Prop} (p : X -> Prop) (t : ∀ x, p x -> G x) (h : (∀ x, p x -> G x) -> A) : A := h t
theorem q1ta (l : List Int) : 52 <= (q1mf l).length + l.length := by
  have h1 : (q1mf l).length = ((List.range 52).map fun (k : Nat) => (k : Int)).countP (fun x => decide (x ∉ l)) := by
    rw [q1mf, q1mg, List.countP_eq_length_filter]
  have h2 := q1e7 (l := (List.range 52).map fun (k : Nat) => (k : Int)) (fun x => decide (x ∈ l))
  have h3 : (((List.range 52).map fun (k : Nat) => (k : Int)).filter (fun x => decide (x ∈ l))).length <= l.length := q1lg (ys := l) (List.Pairwise.filter _ (by rw [List.pairwise_map]; exact List.Pairwise.imp (fun h e => h (by omega)) List.nodup_range)) fun x hx => by simpa using (List.mem_filter.1 hx).2
  rw [← List.countP_eq_length_filter] at h3
  have h4 : ((List.range 52).map fun (k : Nat) => (k : Int)).countP (fun x => !decide (x ∈ l)) = ((List.range 52).map fun (k : Nat) => (k : Int)).countP (fun x => decide (x ∉ l)) := by
    congr 1; funext x; simp
  have h5 : ((List.range 52).map fun (k : Nat) => (k : Int)).length = 52 := by simp
  omega
theorem q1tw : ∀ v : Nat, v <= 2 -> [T.i 2, T.i 0, T.i 2, T.i 5, T.b true, T.i 0, T.i 4, T.i 2, T.i 2, T.i 5, T.b true, T.i 0, T.i 4, T.i 2, T.i 2, T.i 5, T.b true, T.i 1, T.i 7, T.i 5, T.i 5, T.i 0, T.b true, T.i 0, T.i 7, T.i 5, T.i 5, T.i 0, T.b true, T.i 1, T.i 7, T.i 5, T.i 5, T.i 0, T.b false, T.i 2, T.i 5, T.i 5, T.i 5, T.i 0, T.b true, T.i 0, T.i 5, T.i 5, T.i 5, T.i 0, T.b false, T.i 3][v * 6]? = some (T.i (hoOf v : Nat))
  | 0, _ => rfl | 1, _ => rfl | 2, _ => rfl | n + 3, h => by omega
def q1tj (x : (Int × List (List Int)) × (List Int × List Int)) : Prop := (-1 <= x.1.1 /\ x.1.1 <= 3) /\ (x.1.2.length <= 3 /\ ∀ r ∈ x.1.2, r.length <= 4) /\ x.2.1.length <= 5 /\ x.2.2.length <= 52
def q1sl (x : (Int × List (List Int)) × (List Int × List Int)) : T := .tup [.i x.1.1, rows x.1.2, ints x.2.1, ints x.2.2]
theorem nil3 {a b : T} : ∀ i (h : i < [A.t a, A.t b, A.t (ints [])].length) (h' : i < [A.t a, A.t b, A.t (.v (.slice none 0 0))].length), [A.t a, A.t b, A.t (ints [])][i] = [A.t a, A.t b, A.t (.v (.slice none 0 0))][i] ∨ ((∃ s, [A.t a, A.t b, A.t (ints [])][i] = .t (.sh s [])) /\ [A.t a, A.t b, A.t (.v (.slice none 0 0))][i] = .t (.v (.slice none 0 0)))
  | 0, _, _ => .inl rfl
  | 1, _, _ => .inl rfl
  | 2, _, _ => .inr ⟨⟨1, rfl⟩, rfl⟩
  | n + 3, h, _ => absurd h (by simp)
theorem q1sn {m : List (List Int)} {k : Nat} (h : ∀ r ∈ m, r.length <= k) : m.flatten.length <= m.length * k := by
  induction m with
  | nil => simp
  | cons r m ih =>
    have h1 := h r (by simp)
    have h2 := ih fun x hx => h x (by simp [hx])
    rw [List.flatten_cons, List.length_append, List.length_cons, Nat.add_mul]; omega
theorem q1tu (cs : List Int) (hc : q161 cs) (hl : cs.length <= 100000000000) (a : Nat × Int) (ha : q0qx a) :
    Fun Try.prog 43 [.box [bytes cs, .i a.1, .i a.2]] [.own 1000000000] fun o r => ∃ x : ((Int × List (List Int)) × (List Int × List Int)) × (Nat × Int), o = [.box [bytes cs, .i x.2.1, .i x.2.2]] /\ r = q1sl x.1 /\ (q1tj x.1 /\ q0qx x.2) := by
  refine q1t1 (by simp) ?_
  simp -implicitDefEqProofs only [eR', go_sem, q1sg]
  have hp := q117 cs hc hl a ha [0, 0, 0, 1, 2] (by simp) (by simp)
  simp only [intsO, List.map_cons, List.map_nil] at hp
  refine q006.ref hp [1000000000, 20] [] rfl Try.call72 (by simp) ?_ (by simp) ?_ (.inl rfl) ?_
  . simp -implicitDefEqProofs only [sR', Nat.reduceEqDiff, ↓reduceIte]
  . simp -implicitDefEqProofs only [aR', go_sem]
  simp -implicitDefEqProofs only [cR', go_sem]
  have hm := q1tf (cs := cs) (a := a) (l := [0, 0, 0, 1, 2]) (by simp)
  have hs1 := q116 (cs := cs) hl ha [0, 0, 0, 1, 2]
  generalize q115 cs a [0, 0, 0, 1, 2] = z at hm hs1 ⊢
  obtain ⟨v, b⟩ := z
  simp only [] at hm hs1 ⊢
  obtain ⟨V, rfl, hV⟩ : ∃ V : Nat, v = V /\ V <= 2 := ⟨v.toNat, by simp at hm; omega, by simp at hm; omega⟩
  refine q006.ref (q10p cs hc hl b hs1 2 (by omega)) [1000000000] [] rfl Try.call73 (by simp) ?_ (by simp) ?_ (.inl rfl) ?_
  . simp -implicitDefEqProofs only [sR', Nat.reduceEqDiff, ↓reduceIte]
  . simp -implicitDefEqProofs only [aR', go_sem]
  simp -implicitDefEqProofs only [cR', go_sem]
  have hb2 := q10n (cs := cs) (a := b) (show (1 : Int) <= 2 by omega)
  have hs2 := q10o (cs := cs) hl hs1 2
  generalize q10m cs b 2 = z at hb2 hs2 ⊢
  obtain ⟨x, c⟩ := z
  simp only [] at hb2 hs2 ⊢
  obtain ⟨P, hP, hP3⟩ : ∃ P : Nat, IntKind.i64.wrap (2 + x) = (P : Int) /\ (P <= 3 /\ 2 <= P) := ⟨(2 + x).toNat, by rw [wrap64 (by omega) (by omega)]; omega, by omega, by omega⟩
  obtain ⟨hP3, hP2⟩ := hP3
  have hho := q1is V
  refine q006.res q1pr [] rfl Try.call54 ?_ (.inl rfl) ?_
  . simp -implicitDefEqProofs only [aR', go_sem]
  simp -implicitDefEqProofs only [cR', go_sem, stdT, q1tw V hV, hP]
  have hPH : P * hoOf V <= 3 * 4 := Nat.mul_le_mul hP3 hho
  have hw1 : IntKind.i64.wrap ((P : Int) * (hoOf V : Nat)) = ((P * hoOf V : Nat) : Int) := by rw [← Int.natCast_mul]; exact wrap64 (by omega) (by omega)
  have hw2 : IntKind.i64.wrap (((P * hoOf V : Nat) : Int) + 5) = ((P * hoOf V + 5 : Nat) : Int) := by rw [wrap64 (by omega) (by omega)]; omega
  rw [hw1, hw2]
  refine ⟨by omega, by omega, by omega, ?_⟩
  refine q006.ref (q10p cs hc hl c hs2 4 (by omega)) [1000000000] [] rfl Try.call73 (by simp) ?_ (by simp) ?_ (.inl rfl) ?_
  . simp -implicitDefEqProofs only [sR', Nat.reduceEqDiff, ↓reduceIte]
  . simp -implicitDefEqProofs only [aR', go_sem]
  simp -implicitDefEqProofs only [cR', go_sem]
  have hb3 := q10n (cs := cs) (a := c) (show (1 : Int) <= 4 by omega)
  have hs3 := q10o (cs := cs) hl hs2 4
  generalize q10m cs c 4 = z at hb3 hs3 ⊢
  obtain ⟨n4, d⟩ := z
  simp only [] at hb3 hs3 ⊢
  obtain ⟨M, hM, hM20⟩ : ∃ M : Nat, IntKind.i64.wrap (((P * hoOf V + 5 : Nat) : Int) + n4) = (M : Int) /\ (P * hoOf V + 5 <= M /\ M <= P * hoOf V + 8) := ⟨P * hoOf V + 5 + n4.toNat, by rw [wrap64 (by omega) (by omega)]; omega, by omega⟩
  rw [hM]
  have hdl := q1tr cs hc hl d hs3 M (by omega)
  refine q006.exi hdl [1000000000] [] rfl Try.call74 (by simp) ?_ (by simp) ?_ (.inl rfl) (fun x hx => ?_)
  . simp -implicitDefEqProofs only [sR', Nat.reduceEqDiff, ↓reduceIte]
  . simp -implicitDefEqProofs only [aR', go_sem]
  simp -implicitDefEqProofs only [cR', go_sem]
  obtain ⟨D, e⟩ := x
  obtain ⟨hD1, hD2, hs4⟩ := hx
  (try simp only [] at hD1 hD2 hs4)
  (try simp only [])
  refine q006.ref (q10p cs hc hl e hs4 3 (by omega)) [1000000000] [] rfl Try.call73 (by simp) ?_ (by simp) ?_ (.inl rfl) ?_
  . simp -implicitDefEqProofs only [sR', Nat.reduceEqDiff, ↓reduceIte]
  . simp -implicitDefEqProofs only [aR', go_sem]
  simp -implicitDefEqProofs only [cR', go_sem, intsO]
  have hs5 := q10o (cs := cs) hl hs4 3
  generalize q10m cs e 3 = z at hs5 ⊢
  obtain ⟨n3, f⟩ := z
  simp only [] at hs5 ⊢
  apply q1u2 (X := List Int × (Nat × Int)) (fun x => x.1.length = M /\ q0qx x.2)
  case h =>
    intro tail
    refine ⟨fun h3 => ?_, fun h3 => ?_⟩
    . refine SemC.loopR (σ := Nat) (fun i => St.of [(0, .own 1000000000), (6, .t (.i V)), (7, .t (.i P)), (8, .t (.i (hoOf V : Nat))), (9, .own 97), (10, .own 98), (11, .t (.i i))] [(1000000000, .box [bytes cs, .i f.1, .i f.2]), (97, .arr 1 (D.map T.i)), (98, .arr 1 ((((List.range i).filter fun k => k / 4 % 2 == 0).map fun (k : Nat) => (k : Int)).map T.i))]) (fun i => i <= 52) (fun i => 52 - i) 0 (Weak.of _ _ [some 1000000000, some 38, some 42] (by simp) (by simp) ?_ ⟨⟨_, rfl, .refl _⟩, rfl, ⟨_, rfl, .refl _⟩, rfl, ⟨_, rfl, .refl _⟩, rfl, trivial⟩) (by omega) fun i hi R hn' hr he => ?_
      . simp -implicitDefEqProofs only [wR', Nat.reduceBEq, Nat.reduceEqDiff, ↓reduceIte]
      . have hfl : ((((List.range i).filter fun k => k / 4 % 2 == 0).map fun (k : Nat) => (k : Int))).length <= i := by rw [List.length_map]; exact Nat.le_trans (List.length_filter_le _ _) (by simp)
        rcases Nat.lt_or_ge i 52 with h9 | h9
        . have hsn : ((List.range (i + 1)).filter fun k => k / 4 % 2 == 0).map (fun (k : Nat) => (k : Int)) = ((List.range i).filter fun k => k / 4 % 2 == 0).map (fun (k : Nat) => (k : Int)) ++ if i / 4 % 2 = 0 then [(i : Int)] else [] := by
            rw [List.range_succ, List.filter_append, List.map_append]
            congr 1
            by_cases h : i / 4 % 2 = 0 <;> simp [h]
          generalize ((List.range i).filter fun k => k / 4 % 2 == 0).map (fun (k : Nat) => (k : Int)) = F at hfl hsn
          have hq : IntKind.i64.wrap ((i : Int).tdiv 4) = ((i / 4 : Nat) : Int) := q1u8 (a := i) (b := 4) (by omega)
          have hr4 : ((i / 4 : Nat) : Int).tmod 2 = ((i / 4 % 2 : Nat) : Int) := q1qt (i / 4) 2
          simp -implicitDefEqProofs only [eR', go_sem, decide_eq_true (show (i : Int) < 52 by omega), hq, hr4]
          refine ⟨by omega, by omega, fun h => ⟨by omega, ?_⟩, fun h => ?_⟩
          . have h0 : i / 4 % 2 = 0 := by have : ((i / 4 % 2 : Nat) : Int) = 0 := by simpa using h
                                          omega
            rw [if_pos h0] at hsn
            refine hn' _ (i + 1) (Weak.of _ _ [some 1000000000, some 97, some 54] (by simp) (by simp) ?_ ⟨⟨_, rfl, .refl _⟩, rfl, ⟨_, rfl, .refl _⟩, rfl, ⟨_, rfl, by rw [hsn, List.map_append]; exact .refl _⟩, rfl, trivial⟩) (by omega) (by omega)
            simp -implicitDefEqProofs only [wR', Nat.reduceBEq, Nat.reduceEqDiff, ↓reduceIte, q0lb h9 (by omega)]
          . have h0 : ¬ i / 4 % 2 = 0 := by have : ¬ ((i / 4 % 2 : Nat) : Int) = 0 := by simpa using h
                                            omega
            rw [if_neg h0, List.append_nil] at hsn
            refine hn' _ (i + 1) (Weak.of _ _ [some 1000000000, some 97, some 98] (by simp) (by simp) ?_ ⟨⟨_, rfl, .refl _⟩, rfl, ⟨_, rfl, .refl _⟩, rfl, ⟨_, rfl, by rw [hsn]; exact .refl _⟩, rfl, trivial⟩) (by omega) (by omega)
            simp -implicitDefEqProofs only [wR', Nat.reduceBEq, Nat.reduceEqDiff, ↓reduceIte, q0lb h9 (by omega)]
        . simp -implicitDefEqProofs only [eR', go_sem, decide_eq_false (show ¬ (i : Int) < 52 by omega)]
          refine he _ _ ?_
          rw [show i = 52 by omega]
          have hF : (((List.range 52).filter fun k => k / 4 % 2 == 0).map fun (k : Nat) => (k : Int)).length = 28 := by decide
          generalize (((List.range 52).filter fun k => k / 4 % 2 == 0).map fun (k : Nat) => (k : Int)) = F at hF
          simp -implicitDefEqProofs only [eR', go_sem]
          refine q006.exi (q1ts cs hc hl f hs5 F (by omega)) [1000000000, 98] [] rfl Try.call75 (by simp) ?_ (by simp) ?_ (.inl rfl) (fun y hy => ?_)
          . simp -implicitDefEqProofs only [sR', Nat.reduceEqDiff, ↓reduceIte]
          . simp -implicitDefEqProofs only [aR', go_sem]
          simp -implicitDefEqProofs only [cR', go_sem]
          obtain ⟨Y, g⟩ := y
          obtain ⟨hY1, hY2, hs6⟩ := hy
          (try simp only [] at hY1 hY2 hs6)
          (try simp only [])
          simp -implicitDefEqProofs only [eR', go_sem, intsO]
          refine ⟨by omega, ?_⟩
          obtain ⟨X, hX1, hX2⟩ : ∃ X : List Int × (Nat × Int), X.1 = Y.take D.length /\ X.2 = g := ⟨(Y.take D.length, g), rfl, rfl⟩
          refine q1s2 (Weak.trans (Weak.shareS 57 rfl) (Weak.of [(0, .own 1000000000), (6, .t (.i V)), (7, .t (.i P)), (8, .t (.i (hoOf V : Nat))), (9, .t (ints X.1))] [(1000000000, .box [bytes cs, .i X.2.1, .i X.2.2])] [some 1000000000] (by simp) (by simp) ?_ ⟨⟨_, rfl, by rw [hX2]; exact .refl _⟩, rfl, trivial⟩)) ?_
          . have q1 : 0 < Y.length := by omega
            have q2 : D.length <= Y.length := by omega
            simp -implicitDefEqProofs only [wR', Nat.reduceBEq, Nat.reduceEqDiff, ↓reduceIte, q1th, hX1, T.toSh, q0vf, List.map_take, List.length_map, List.drop_zero, Nat.mul_one, Nat.zero_add, Nat.sub_zero, q1, q2]
          . exact tail X ⟨by rw [hX1, List.length_take]; omega, by rw [hX2]; exact hs6⟩
    . obtain ⟨X, hX1, hX2⟩ : ∃ X : List Int × (Nat × Int), X.1 = D /\ X.2 = f := ⟨(D, f), rfl, rfl⟩
      refine q1s2 (Weak.trans (Weak.share 38 rfl) (Weak.of [(0, .own 1000000000), (6, .t (.i V)), (7, .t (.i P)), (8, .t (.i (hoOf V : Nat))), (9, .t (ints X.1))] [(1000000000, .box [bytes cs, .i X.2.1, .i X.2.2])] [some 1000000000] (by simp) (by simp) ?_ ⟨⟨_, rfl, by rw [hX2]; exact .refl _⟩, rfl, trivial⟩)) ?_
      . simp -implicitDefEqProofs only [wR', Nat.reduceBEq, Nat.reduceEqDiff, ↓reduceIte, q0rg, hX1, T.toSh, q0vf]
      . exact tail X ⟨by rw [hX1]; omega, by rw [hX2]; exact hs5⟩
  case t =>
    rintro ⟨C, g⟩ ⟨hC, hs6⟩
    (try simp only [] at hC hs6)
    simp -implicitDefEqProofs only [eR', go_sem]
    refine SemC.loopR (σ := Nat × List (List Int)) (fun s => St.of [(0, .own 1000000000), (6, .t (.i V)), (7, .t (.i P)), (8, .t (.i (hoOf V : Nat))), (9, .t (ints C)), (12, .own 97), (13, .t (.i s.1))] [(1000000000, .box [bytes cs, .i g.1, .i g.2]), (97, q0qa s.2)]) (fun s => s.1 <= P /\ s.2.length = s.1 /\ ∀ r ∈ s.2, r.length = hoOf V) (fun s => P - s.1) (0, []) (Weak.of _ _ [some 1000000000, some 61] (by simp) (by simp) ?_ ⟨⟨_, rfl, .refl _⟩, rfl, ⟨_, rfl, .refl _⟩, rfl, trivial⟩) ⟨by simp, rfl, by simp⟩ fun s hI R hn' hr he => ?_
    . simp -implicitDefEqProofs only [wR', Nat.reduceBEq, Nat.reduceEqDiff, ↓reduceIte]
    obtain ⟨i, m⟩ := s
    obtain ⟨hi, hml, hmr⟩ := hI
    (try simp only [] at hi hml hmr)
    rcases Nat.lt_or_ge i P with h9 | h9
    . have hi1 : i * hoOf V + hoOf V <= P * hoOf V := by
        have := Nat.mul_le_mul_right (hoOf V) (show i + 1 <= P by omega)
        rw [Nat.add_mul] at this; omega
      have hw3 : IntKind.i64.wrap ((i : Int) * (hoOf V : Nat)) = ((i * hoOf V : Nat) : Int) := by rw [← Int.natCast_mul]; exact wrap64 (by omega) (by omega)
      have hw4 : IntKind.i64.wrap (((i * hoOf V : Nat) : Int) + (hoOf V : Nat)) = ((i * hoOf V + hoOf V : Nat) : Int) := by rw [wrap64 (by omega) (by omega)]; omega
      simp -implicitDefEqProofs only [eR', go_sem, decide_eq_true (show (i : Int) < (P : Int) by omega), hw3, hw4, q0qa]
      refine ⟨by omega, by omega, ?_⟩
      have hcut : List.take (i * hoOf V + hoOf V - i * hoOf V) (List.drop (i * hoOf V) (C.map T.i)) = ((C.drop (i * hoOf V)).take (hoOf V)).map T.i := by
        rw [← List.map_drop, ← List.map_take]; congr 2; omega
      rw [hcut]
      generalize hB : (C.drop (i * hoOf V)).take (hoOf V) = Bx
      have hBl : Bx.length = hoOf V := by rw [← hB, List.length_take, List.length_drop]; omega
      refine q006.res (q0s5 Bx (by omega)) [] rfl Try.call53 ?_ (.inl rfl) ?_
      . simp -implicitDefEqProofs only [aR', go_sem]
      simp -implicitDefEqProofs only [cR', go_sem, intsO]
      refine ⟨by omega, ?_⟩
      refine hn' _ (i + 1, m ++ [Bx]) (Weak.o _ _ [some 1000000000, some 80] ?_ ?_) ⟨by omega, ?_, ?_⟩ (by simp only []; omega)
      . simp -implicitDefEqProofs only [wR', Nat.reduceBEq, Nat.reduceEqDiff, ↓reduceIte, q0lb h9 (by omega)]
      . refine ⟨⟨_, rfl, .refl _⟩, rfl, ⟨_, rfl, ?_⟩, rfl, trivial⟩
        simp only [q0qa, intsO, List.map_append, List.map_cons, List.map_nil]; exact .refl _
      . simp only [List.length_append, List.length_cons, List.length_nil]; omega
      . intro r hr
        rcases List.mem_append.1 hr with hr | hr
        . exact hmr r hr
        . have : r = Bx := by simpa using hr
          subst this; exact hBl
    . simp -implicitDefEqProofs only [eR', go_sem, decide_eq_false (show ¬ (i : Int) < (P : Int) by omega), q0qa]
      refine he _ _ ?_
      simp -implicitDefEqProofs only [eR', go_sem, hw1]
      refine ⟨by omega, by omega, ?_⟩
      have hcut : List.take (C.length - P * hoOf V) (List.drop (P * hoOf V) (C.map T.i)) = (C.drop (P * hoOf V)).map T.i := by
        rw [List.take_of_length_le (by rw [List.length_drop, List.length_map]; omega), List.map_drop]
      rw [hcut]
      generalize hB : C.drop (P * hoOf V) = Rs
      have hRl : 5 <= Rs.length /\ Rs.length <= 8 := by rw [← hB, List.length_drop]; omega
      have hp6 := q117 cs hc hl g hs6 [5, 4, 4, 5, 4, 4] (by simp) (by simp)
      simp only [intsO, List.map_cons, List.map_nil] at hp6
      refine q006.ref hp6 [1000000000, 87] [] rfl Try.call72 (by simp) ?_ (by simp) ?_ (.inl rfl) ?_
      . simp -implicitDefEqProofs only [sR', Nat.reduceEqDiff, ↓reduceIte]
      . simp -implicitDefEqProofs only [aR', go_sem]
      simp -implicitDefEqProofs only [cR', go_sem]
      have hm6 := q1tf (cs := cs) (a := g) (l := [5, 4, 4, 5, 4, 4]) (by simp)
      have hs7 := q116 (cs := cs) hl hs6 [5, 4, 4, 5, 4, 4]
      generalize q115 cs g [5, 4, 4, 5, 4, 4] = z at hm6 hs7 ⊢
      obtain ⟨n6, k⟩ := z
      simp only [] at hm6 hs7 ⊢
      obtain ⟨N6, rfl, hN6⟩ : ∃ N : Nat, n6 = N /\ (N = 4 ∨ N = 5) := ⟨n6.toNat, by simp at hm6; omega, by simp at hm6; omega⟩
      apply q1u2 (X := Nat × (Nat × Int)) (fun x => (x.1 = 3 ∨ x.1 = 4 ∨ x.1 = 5) /\ q0qx x.2)
      case h =>
        intro tail2
        have goon : ∀ (N : Nat) (q : Nat × Int), (N = 3 ∨ N = 4 ∨ N = 5) -> q0qx q -> ∃ X : Nat × (Nat × Int), X.1 = N /\ X.2 = q /\ ((X.1 = 3 ∨ X.1 = 4 ∨ X.1 = 5) /\ q0qx X.2) := fun N q h1 h2 => ⟨(N, q), rfl, rfl, h1, h2⟩
        refine ⟨fun h0 => ?_, fun h0 => ?_⟩
        . refine q006.ref (q10p cs hc hl k hs7 40 (by omega)) [1000000000] [] rfl Try.call73 (by simp) ?_ (by simp) ?_ (.inl rfl) ?_
          . simp -implicitDefEqProofs only [sR', Nat.reduceEqDiff, ↓reduceIte]
          . simp -implicitDefEqProofs only [aR', go_sem]
          simp -implicitDefEqProofs only [cR', go_sem]
          have hs8 := q10o (cs := cs) hl hs7 40
          generalize q10m cs k 40 = z at hs8 ⊢
          obtain ⟨n40, k2⟩ := z
          simp only [] at hs8 ⊢
          refine ⟨fun h4 => ?_, fun h4 => ?_⟩
          . obtain ⟨X, hX1, hX2, hX⟩ := goon 3 k2 (by omega) hs8
            refine q1s2 (Weak.of [(0, .own 1000000000), (6, .t (.i V)), (12, .own 97), (14, .t (ints Rs)), (15, .t (.i X.1))] [(1000000000, .box [bytes cs, .i X.2.1, .i X.2.2]), (97, .arr 1 (m.map intsO))] [some 1000000000, some 97] (by simp) (by simp) ?_ ⟨⟨_, rfl, by rw [hX2]; exact .refl _⟩, rfl, ⟨_, rfl, .refl _⟩, rfl, trivial⟩) ?_
            . simp -implicitDefEqProofs only [wR', Nat.reduceBEq, Nat.reduceEqDiff, ↓reduceIte, hX1]
            . exact tail2 X hX
          . obtain ⟨X, hX1, hX2, hX⟩ := goon N6 k2 (by omega) hs8
            refine q1s2 (Weak.of [(0, .own 1000000000), (6, .t (.i V)), (12, .own 97), (14, .t (ints Rs)), (15, .t (.i X.1))] [(1000000000, .box [bytes cs, .i X.2.1, .i X.2.2]), (97, .arr 1 (m.map intsO))] [some 1000000000, some 97] (by simp) (by simp) ?_ ⟨⟨_, rfl, by rw [hX2]; exact .refl _⟩, rfl, ⟨_, rfl, .refl _⟩, rfl, trivial⟩) ?_
            . simp -implicitDefEqProofs only [wR', Nat.reduceBEq, Nat.reduceEqDiff, ↓reduceIte, hX1]
            . exact tail2 X hX
        . obtain ⟨X, hX1, hX2, hX⟩ := goon N6 k (by omega) hs7
          refine q1s2 (Weak.of [(0, .own 1000000000), (6, .t (.i V)), (12, .own 97), (14, .t (ints Rs)), (15, .t (.i X.1))] [(1000000000, .box [bytes cs, .i X.2.1, .i X.2.2]), (97, .arr 1 (m.map intsO))] [some 1000000000, some 97] (by simp) (by simp) ?_ ⟨⟨_, rfl, by rw [hX2]; exact .refl _⟩, rfl, ⟨_, rfl, .refl _⟩, rfl, trivial⟩) ?_
          . simp -implicitDefEqProofs only [wR', Nat.reduceBEq, Nat.reduceEqDiff, ↓reduceIte, hX1]
          . exact tail2 X hX
      case t =>
        rintro ⟨N, q⟩ ⟨hN, hs9⟩
        (try simp only [] at hN hs9)
        have hcb : List.take (N - 0) (List.map T.i Rs) = (Rs.take N).map T.i := by rw [Nat.sub_zero, List.map_take]
        have hcd : List.take (Rs.length - 5) (List.drop 5 (List.map T.i Rs)) = (Rs.drop 5).map T.i := by
          rw [List.take_of_length_le (by rw [List.length_drop, List.length_map]; omega), List.map_drop]
        simp -implicitDefEqProofs only [eR', go_sem, hcb]
        refine ⟨by omega, by omega, ?_⟩
        generalize hBo : Rs.take N = Bo at hcb ⊢
        have hBl : Bo.length = N := by rw [← hBo, List.length_take]; omega
        refine q000.res (q0s5 Bo (by omega)) [] rfl Try.call53 (fun e R' hR => ?_) (.inl rfl) ?_
        . simp -implicitDefEqProofs only [aR', go_sem]
        simp -implicitDefEqProofs only [cR', go_sem, hcd, intsO]
        refine ⟨by omega, by omega, ?_⟩
        generalize hDe : Rs.drop 5 = De at hcd ⊢
        have hDl : De.length <= 3 := by rw [← hDe, List.length_drop]; omega
        refine q000.res (q0s5 De (by omega)) [] rfl Try.call53 (fun e R' hR => ?_) (.inl rfl) ?_
        . simp -implicitDefEqProofs only [aR', go_sem]
        simp -implicitDefEqProofs only [cR', go_sem, intsO]
        refine q1s2 (Weak.trans (Weak.share 97 rfl) (Weak.of [(0, .own 1000000000), (6, .t (.i V)), (12, .t (rows m)), (16, .own 99), (17, .own 102)] [(1000000000, .box [bytes cs, .i q.1, .i q.2]), (99, .arr 1 (Bo.map T.i)), (102, .arr 1 (De.map T.i))] [some 1000000000, some 99, some 102] (by simp) (by simp) ?_ ⟨⟨_, rfl, .refl _⟩, rfl, ⟨_, rfl, .refl _⟩, rfl, ⟨_, rfl, .refl _⟩, rfl, trivial⟩)) ?_
        . simp -implicitDefEqProofs only [wR', Nat.reduceBEq, Nat.reduceEqDiff, ↓reduceIte, q0rg, T.toSh, q0vg]
        simp -implicitDefEqProofs only [eR', go_sem]
        refine q006.ref (q10p cs hc hl q hs9 24 (by omega)) [1000000000] [] rfl Try.call73 (by simp) ?_ (by simp) ?_ (.inl rfl) ?_
        . simp -implicitDefEqProofs only [sR', Nat.reduceEqDiff, ↓reduceIte]
        . simp -implicitDefEqProofs only [aR', go_sem]
        simp -implicitDefEqProofs only [cR', go_sem]
        have hs10 := q10o (cs := cs) hl hs9 24
        generalize q10m cs q 24 = z at hs10 ⊢
        obtain ⟨w, u⟩ := z
        simp only [] at hs10 ⊢
        have hPm : m.length <= 3 := by omega
        have hmr4 : ∀ r ∈ m, r.length <= 4 := fun r hr => by rw [hmr r hr]; exact hho
        have hf12 : m.flatten.length <= 3 * 4 := Nat.le_trans (q1sn hmr4) (Nat.mul_le_mul_right 4 hPm)
        refine ⟨fun h4 => ?_, fun h4 => ⟨fun h0 => ?_, fun h0 => ⟨fun h1 => ?_, fun h1 => ⟨fun h2 => ?_, fun h2 => ⟨fun h3 => ?_, fun h3 => ?_⟩⟩⟩⟩⟩
        . have hre := (q1px m Bo [] (by omega) (by omega) (by omega) (by simp)).nilA (args := [.t (rows m), .t (ints Bo), .t (.v (.slice none 0 0))]) rfl nil3
          have hlen : 52 <= (q1nk m Bo []).length + (Bo.length + m.flatten.length) := by
            have := q1ta ((Bo ++ []) ++ m.flatten)
            rw [List.append_nil, List.length_append] at this
            rw [q1nk, List.append_nil]; exact this
          have h52 := q1nm m Bo []
          generalize q1nk m Bo [] = Ot at hre hlen h52
          refine q006.res hre [99] rfl Try.call76 ?_ (.inr (q0fh _)) ?_
          . simp -implicitDefEqProofs only [aR', go_sem]
          simp -implicitDefEqProofs only [cR', go_sem]
          refine q1s2 (Weak.trans (Weak.share 109 rfl) (Weak.of [(0, .own 1000000000), (6, .t (.i V)), (12, .t (rows m)), (16, .own 99), (18, .t (ints Ot))] [(1000000000, .box [bytes cs, .i u.1, .i u.2]), (99, .arr 1 (Bo.map T.i))] [some 1000000000, some 99] (by simp) (by simp) ?_ ⟨⟨_, rfl, .refl _⟩, rfl, ⟨_, rfl, .refl _⟩, rfl, trivial⟩)) ?_
          . simp -implicitDefEqProofs only [wR', Nat.reduceBEq, Nat.reduceEqDiff, ↓reduceIte, q0rg, q0fi]
          simp -implicitDefEqProofs only [eR', go_sem]
          refine q006.ref (q10p cs hc hl u hs10 3 (by omega)) [1000000000] [] rfl Try.call73 (by simp) ?_ (by simp) ?_ (.inl rfl) ?_
          . simp -implicitDefEqProofs only [sR', Nat.reduceEqDiff, ↓reduceIte]
          . simp -implicitDefEqProofs only [aR', go_sem]
          simp -implicitDefEqProofs only [cR', go_sem]
          have hb11 := q10n (cs := cs) (a := u) (show (1 : Int) <= 3 by omega)
          have hs11 := q10o (cs := cs) hl hs10 3
          generalize q10m cs u 3 = z at hb11 hs11 ⊢
          obtain ⟨y, u2⟩ := z
          simp only [] at hb11 hs11 ⊢
          obtain ⟨J, hJ, hJl⟩ : ∃ J : Nat, IntKind.i64.wrap ((Ot.length : Int) - y) = (J : Int) /\ J <= Ot.length := ⟨((Ot.length : Int) - y).toNat, by rw [wrap64 (by omega) (by omega)]; omega, by omega⟩
          rw [hJ]
          simp -implicitDefEqProofs only [eR', go_sem]
          refine ⟨by omega, by omega, ?_⟩
          have hcj : List.take (J - 0) (List.map T.i Ot) = (Ot.take J).map T.i := by rw [Nat.sub_zero, List.map_take]
          refine q1s2 (Weak.trans (Weak.share 99 rfl) (Weak.of [(6, .t (.i V)), (12, .t (rows m)), (16, .t (ints Bo)), (17, .t (ints (Ot.take J)))] [(1000000000, .box [bytes cs, .i u2.1, .i u2.2])] [some 1000000000] (by simp) (by simp) ?_ ⟨⟨_, rfl, .refl _⟩, rfl, trivial⟩)) ?_
          . simp -implicitDefEqProofs only [wR', Nat.reduceBEq, Nat.reduceEqDiff, ↓reduceIte, q0rg, T.toSh, q0vf, hcj]
          simp -implicitDefEqProofs only [eR', go_sem]
          exact ⟨(((V, m), (Bo, Ot.take J)), u2), rfl, rfl, ⟨⟨by simp only []; omega, by simp only []; omega⟩, ⟨hPm, hmr4⟩, by simp only []; omega, by simp only [List.length_take]; omega⟩, hs11⟩
        . obtain ⟨r0, hr0⟩ : ∃ r, m[0]? = some r := ⟨_, List.getElem?_eq_getElem (by omega)⟩
          have hr0l := hmr r0 (List.mem_of_getElem? hr0)
          have hh2 : 2 <= hoOf V := by unfold hoOf; split <;> omega
          obtain ⟨c0, hc0⟩ : ∃ c, r0[0]? = some c := ⟨_, List.getElem?_eq_getElem (by omega)⟩
          simp -implicitDefEqProofs only [eR', go_sem, hr0, hc0]
          refine ⟨by omega, by omega, by omega, by omega, by omega, by omega, ?_⟩
          refine q1s2 (Weak.trans (Weak.share 99 rfl) (Weak.trans (Weak.share 102 rfl) (Weak.of [(6, .t (.i V)), (12, .t (rows m)), (16, .t (ints (Bo.set 0 c0))), (17, .t (ints De))] [(1000000000, .box [bytes cs, .i u.1, .i u.2])] [some 1000000000] (by simp) (by simp) ?_ ⟨⟨_, rfl, .refl _⟩, rfl, trivial⟩))) ?_
          . have hst : (Bo.map T.i).set 0 (T.i c0) = (Bo.set 0 c0).map T.i := by rw [List.map_set]
            simp -implicitDefEqProofs only [wR', Nat.reduceBEq, Nat.reduceEqDiff, ↓reduceIte, q0rg, hst, T.toSh, q0vf]
          simp -implicitDefEqProofs only [eR', go_sem]
          exact ⟨(((V, m), (Bo.set 0 c0, De)), u), rfl, rfl, ⟨⟨by simp only []; omega, by simp only []; omega⟩, ⟨hPm, hmr4⟩, by simp only [List.length_set]; omega, by simp only []; omega⟩, hs10⟩
        . have hp7 := q117 cs hc hl u hs10 [-1, 1, 3] (by simp) (by simp)
          simp only [intsO, List.map_cons, List.map_nil] at hp7
          refine q006.ref hp7 [1000000000, 129] [] rfl Try.call72 (by simp) ?_ (by simp) ?_ (.inl rfl) ?_
          . simp -implicitDefEqProofs only [sR', Nat.reduceEqDiff, ↓reduceIte]
          . simp -implicitDefEqProofs only [aR', go_sem]
          simp -implicitDefEqProofs only [cR', go_sem]
          have hm7 := q1tf (cs := cs) (a := u) (l := [-1, 1, 3]) (by simp)
          have hs12 := q116 (cs := cs) hl hs10 [-1, 1, 3]
          generalize q115 cs u [-1, 1, 3] = z at hm7 hs12 ⊢
          obtain ⟨v7, u2⟩ := z
          simp only [] at hm7 hs12 ⊢
          have hv7 : -1 <= v7 /\ v7 <= 3 := by simp at hm7; omega
          refine q1s2 (Weak.trans (Weak.share 99 rfl) (Weak.trans (Weak.share 102 rfl) (Weak.of [(6, .t (.i v7)), (12, .t (rows m)), (16, .t (ints Bo)), (17, .t (ints De))] [(1000000000, .box [bytes cs, .i u2.1, .i u2.2])] [some 1000000000] (by simp) (by simp) ?_ ⟨⟨_, rfl, .refl _⟩, rfl, trivial⟩))) ?_
          . simp -implicitDefEqProofs only [wR', Nat.reduceBEq, Nat.reduceEqDiff, ↓reduceIte, q0rg, T.toSh, q0vf]
          simp -implicitDefEqProofs only [eR', go_sem]
          exact ⟨(((v7, m), (Bo, De)), u2), rfl, rfl, ⟨hv7, ⟨hPm, hmr4⟩, by simp only []; omega, by simp only []; omega⟩, hs12⟩
        . refine q1s2 (Weak.trans (Weak.share 99 rfl) (Weak.trans (Weak.share 102 rfl) (Weak.of [(6, .t (.i V)), (12, .t (rows m)), (16, .t (ints Bo)), (17, .t (ints De))] [(1000000000, .box [bytes cs, .i u.1, .i u.2])] [some 1000000000] (by simp) (by simp) ?_ ⟨⟨_, rfl, .refl _⟩, rfl, trivial⟩))) ?_
          . simp -implicitDefEqProofs only [wR', Nat.reduceBEq, Nat.reduceEqDiff, ↓reduceIte, q0rg, T.toSh, q0vf]
          simp -implicitDefEqProofs only [eR', go_sem]
          refine ⟨by omega, by omega, ?_⟩
          have hcm : List.take (m.length - 1) (List.drop 1 (List.map ints m)) = (m.drop 1).map ints := by
            rw [List.take_of_length_le (by rw [List.length_drop, List.length_map]; omega), List.map_drop]
          rw [hcm]
          exact ⟨(((V, m.drop 1), (Bo, De)), u), rfl, rfl, ⟨⟨by simp only []; omega, by simp only []; omega⟩, ⟨by simp only [List.length_drop]; omega, fun r hr => hmr4 r (List.mem_of_mem_drop hr)⟩, by simp only []; omega, by simp only []; omega⟩, hs10⟩
        . refine q1s2 (Weak.trans (Weak.share 99 rfl) (Weak.of [(6, .t (.i V)), (12, .t (rows m)), (16, .t (ints Bo)), (17, .own 102)] [(1000000000, .box [bytes cs, .i u.1, .i u.2]), (102, .arr 1 (De.map T.i))] [some 1000000000, some 102] (by simp) (by simp) ?_ ⟨⟨_, rfl, .refl _⟩, rfl, ⟨_, rfl, .refl _⟩, rfl, trivial⟩)) ?_
          . simp -implicitDefEqProofs only [wR', Nat.reduceBEq, Nat.reduceEqDiff, ↓reduceIte, q0rg, T.toSh, q0vf]
          simp -implicitDefEqProofs only [eR', go_sem]
          refine ⟨by omega, ?_⟩
          have hc2 : List.take (2 - 0) (List.map T.i Bo) = (Bo.take 2).map T.i := by rw [Nat.sub_zero, List.map_take]
          refine q1s2 (Weak.trans (Weak.share 102 rfl) (Weak.of [(6, .t (.i V)), (12, .t (rows m)), (16, .t (ints (Bo.take 2))), (17, .t (ints De))] [(1000000000, .box [bytes cs, .i u.1, .i u.2])] [some 1000000000] (by simp) (by simp) ?_ ⟨⟨_, rfl, .refl _⟩, rfl, trivial⟩)) ?_
          . simp -implicitDefEqProofs only [wR', Nat.reduceBEq, Nat.reduceEqDiff, ↓reduceIte, q0rg, T.toSh, q0vf, hc2]
          simp -implicitDefEqProofs only [eR', go_sem]
          exact ⟨(((V, m), (Bo.take 2, De)), u), rfl, rfl, ⟨⟨by simp only []; omega, by simp only []; omega⟩, ⟨hPm, hmr4⟩, by simp only [List.length_take]; omega, by simp only []; omega⟩, hs10⟩
        . refine q1s2 (Weak.trans (Weak.share 99 rfl) (Weak.trans (Weak.share 102 rfl) (Weak.of [(6, .t (.i V)), (12, .t (rows m)), (16, .t (ints Bo)), (17, .t (ints De))] [(1000000000, .box [bytes cs, .i u.1, .i u.2])] [some 1000000000] (by simp) (by simp) ?_ ⟨⟨_, rfl, .refl _⟩, rfl, trivial⟩))) ?_
          . simp -implicitDefEqProofs only [wR', Nat.reduceBEq, Nat.reduceEqDiff, ↓reduceIte, q0rg, T.toSh, q0vf]
          simp -implicitDefEqProofs only [eR', go_sem]
          exact ⟨(((V, m), (Bo, De)), u), rfl, rfl, ⟨⟨by simp only []; omega, by simp only []; omega⟩, ⟨hPm, hmr4⟩, by simp only []; omega, by simp only []; omega⟩, hs10⟩
end
section
attribute [-go_sem] q0i5 q0id fldC lenC idxC q0ip cW.eq_10
theorem q1vh (cs : List Int) (hc : q161 cs) (hl : cs.length <= 100000000000) : Fun Try.prog 19 [] [.t (bytes cs)] fun o r => ∃ x : (Int × List (List Int)) × (List Int × List Int), o = [] /\ r = q1sl x /\ q1tj x := by
  refine q1ux (by simp) ?_
  simp -implicitDefEqProofs only [eR', go_sem, q1ui]
  refine q006.res (q11z cs hc (by omega)) [] rfl Try.call44 ?_ (.inl rfl) ?_
  . simp -implicitDefEqProofs only [aR', go_sem]
  simp -implicitDefEqProofs only [cR', go_sem, srcT]
  have hs0 := q11l (cs.take 64)
  generalize q0za (cs.take 64) = sd at hs0 ⊢
  refine q006.exi (q1tu cs hc hl (0, sd) hs0) [7] [] rfl Try.call43 (by simp) ?_ (by simp) ?_ (.inl rfl) (fun x hx => ?_)
  . simp -implicitDefEqProofs only [sR', Nat.reduceEqDiff, ↓reduceIte]
  . simp -implicitDefEqProofs only [aR', go_sem]
  simp -implicitDefEqProofs only [cR', go_sem, q1sl, rows, ints]
  exact ⟨x.1, rfl, hx.1⟩
end

theorem q10g (cs : List Int) : Pure Try.prog 18 [bytes cs] (.b (decide ((cs.length : Int) > 4096))) := by
  refine q0zf (by simp) ?_
  simp -implicitDefEqProofs only [eR', go_sem, q0ya, bytes]
theorem q1v8 (a b : List (Int × Int)) (ha : a.length <= 1000000000000) (hb : b.length <= 1000000000000) : Pure Try.prog 22 [rats a, rats b] (.b (decide (a = b))) := by
  refine q1uw (by simp) ?_
  simp -implicitDefEqProofs only [eR', go_sem, q1uh]
  refine ⟨fun h => ?_, fun h => ?_⟩
  . have : a ≠ b := by rintro rfl; simp at h
    simp [this]
  . have hab : a.length = b.length := by simp at h; omega
    refine SemC.loopR (σ := Nat) (fun i => St.of [(0, .t (rats a)), (1, .t (rats b)), (5, .t (.i i))] []) (fun i => i <= a.length /\ ∀ j, j < i -> a[j]? = b[j]?) (fun i => a.length - i) 0 (Weak.o _ [] [] ?_ trivial) ⟨by simp, fun j hj => by omega⟩ fun i hI R hn hr he => ?_
    . simp -implicitDefEqProofs only [wR', Nat.reduceBEq, Nat.reduceEqDiff, ↓reduceIte, rats]
    . simp -implicitDefEqProofs only [eR', go_sem]
      refine ⟨fun h => ?_, fun h => he _ _ ?_⟩
      . obtain ⟨x, hx⟩ : ∃ x, a[i]? = some x := ⟨_, List.getElem?_eq_getElem (by omega)⟩
        obtain ⟨y, hy⟩ : ∃ y, b[i]? = some y := ⟨_, List.getElem?_eq_getElem (by omega)⟩
        refine ⟨by omega, by rw [q0p0]; omega, by rw [q0p0]; omega, by omega, by rw [q0p0]; omega, by rw [q0p0]; omega, ?_⟩
        rw [q1n9 hx, q1n9 hy]
        simp -implicitDefEqProofs only [eR', go_sem]
        refine ⟨fun h1 => hr _ ?_, fun h1 => hn _ (i + 1) (Weak.o _ [] [] ?_ trivial) ⟨by omega, fun j hj => ?_⟩ (by omega)⟩
        . simp -implicitDefEqProofs only [eR', go_sem]
          have : a ≠ b := by rintro rfl; rw [hx] at hy; cases hy; simp at h1
          simp [this]
        . simp -implicitDefEqProofs only [wR', Nat.reduceBEq, Nat.reduceEqDiff, ↓reduceIte, rats, q0lb (by omega : i < a.length) ha]
        . rcases Nat.lt_or_ge j i with h | h
          . exact hI.2 j h
          . have : j = i := by omega
            subst this
            rw [hx, hy]
            have h2 : x.1 = y.1 /\ x.2 = y.2 := by simpa using h1
            rw [Prod.ext h2.1 h2.2]
      . simp -implicitDefEqProofs only [eR', go_sem]
        have : a = b := by
          refine List.ext_getElem? fun j => ?_
          rcases Nat.lt_or_ge j i with h | h
          . exact hI.2 j h
          . rw [List.getElem?_eq_none (by omega), List.getElem?_eq_none (by omega)]
        simp [this]
def cmpR (a b : Int × Int) : Int := if a.1 * b.2 < b.1 * a.2 then -1 else if b.1 * a.2 < a.1 * b.2 then 1 else 0
theorem q1um (x : Int) : Pure Try.prog 94 [.i x] (.b false) := by
  refine q1uq (by simp) ?_
  simp -implicitDefEqProofs only [eR', go_sem, q1ub]
theorem q1uk (x y : Int) : Pure Try.prog 80 [.i x, .i y] (.i (if x < y then -1 else if y < x then 1 else 0)) := by
  refine q1up (by simp) ?_
  simp -implicitDefEqProofs only [eR', go_sem, q1ua]
  refine q006.p (q1um x) [] rfl Try.call94 ?_ ?_
  . simp -implicitDefEqProofs only [aR', go_sem]
  simp -implicitDefEqProofs only [eR', go_sem]
  refine q006.p (q1um y) [] rfl Try.call94 ?_ ?_
  . simp -implicitDefEqProofs only [aR', go_sem]
  simp -implicitDefEqProofs only [eR', go_sem]
  refine ⟨fun h => by rw [if_pos h], fun h => ⟨fun h' => by rw [if_neg h, if_pos (by omega)], fun h' => by rw [if_neg h, if_neg (by omega)]⟩⟩
theorem q1v4 (a b : Int × Int) (ha : q1jw a = true) (hb : q1jw b = true) : Pure Try.prog 57 [rat a, rat b] (.i (cmpR a b)) := by
  refine q1uu (by simp) ?_
  simp -implicitDefEqProofs only [eR', go_sem, q1uf]
  obtain ⟨a1, a2, a3, a4⟩ := q1v6 ha
  obtain ⟨b1, b2, b3, b4⟩ := q1v6 hb
  have p1 := q1va a1 a2 b3 b4
  have p2 := q1va b1 b2 a3 a4
  rw [wrap64 (n := a.1 * b.2) (by omega) (by omega), wrap64 (n := b.1 * a.2) (by omega) (by omega)]
  refine q006.p (q1uk (a.1 * b.2) (b.1 * a.2)) [] rfl Try.call80 ?_ ?_
  . simp -implicitDefEqProofs only [aR', go_sem]
  simp -implicitDefEqProofs only [eR', go_sem]
  rfl
def q1un (a b : Int × Int) : Int × Int := if q1jw a && q1jw b then (cmpR a b, 0) else (0, 1)
theorem q1v2 (a b : Int × Int) : Pure Try.prog 26 [rat a, rat b] (.tup [.i (q1un a b).1, .i (q1un a b).2]) := by
  refine q1us (by simp) ?_
  simp -implicitDefEqProofs only [eR', go_sem, q1ud]
  refine q006.p (q1j1 a) [] rfl Try.call56 ?_ ?_
  . simp -implicitDefEqProofs only [aR', go_sem]
  simp -implicitDefEqProofs only [eR', go_sem]
  refine ⟨fun h1 => ?_, fun h1 => ?_⟩
  . have h1 : q1jw a = true := by simpa using h1
    refine q006.p (q1j1 b) [] rfl Try.call56 ?_ ?_
    . simp -implicitDefEqProofs only [aR', go_sem]
    simp -implicitDefEqProofs only [eR', go_sem]
    refine ⟨fun h2 => ?_, fun h2 => ?_⟩
    . have h2 : q1jw b = false := by simpa using h2
      rw [q1un, h1, h2]; rfl
    . have h2 : q1jw b = true := by simpa using h2
      refine q006.p (q1v4 a b h1 h2) [] rfl Try.call57 ?_ ?_
      . simp -implicitDefEqProofs only [aR', go_sem]
      simp -implicitDefEqProofs only [eR', go_sem]
      rw [q1un, h1, h2]; rfl
  . have h1 : q1jw a = false := by simpa using h1
    rw [q1un, h1]; rfl

theorem fits {n d N D : Int} (hd : 0 < d) (hD : 0 < D) (e : n * D = N * d) (h1 : -1000000000 <= N) (h2 : N <= 1000000000) (h3 : D <= 1000000000) : (redR n d).2 = 0 := by
  obtain ⟨a, ha⟩ := q1uz n d
  obtain ⟨b, hb⟩ := q1v0 n d
  have hg := q1ht n d hd
  have hg' : (gcdI n d : Int) ≠ 0 := by omega
  have e1 : n.tdiv (gcdI n d) = a := by
    generalize (gcdI n d : Int) = g at ha hg'
    rw [ha]; exact Int.mul_tdiv_cancel_left _ hg'
  have e2 : d.tdiv (gcdI n d) = b := by
    generalize (gcdI n d : Int) = g at hb hg'
    rw [hb]; exact Int.mul_tdiv_cancel_left _ hg'
  have hco : gcdI a b = 1 := by
    have h4 : gcdI (gcdI n d * a) (gcdI n d * b) = gcdI n d * gcdI a b := by
      unfold gcdI
      rw [Int.natAbs_mul, Int.natAbs_mul, Nat.gcd_mul_left]; simp
    rw [← ha, ← hb] at h4
    have h5 : gcdI n d * 1 = gcdI n d * gcdI a b := by omega
    exact (Nat.eq_of_mul_eq_mul_left hg h5).symm
  have hb0 : 0 < b := by
    rcases Int.lt_trichotomy b 0 with h | h | h
    . have := Int.mul_neg_of_pos_of_neg (show (0 : Int) < gcdI n d by omega) h
      omega
    . rw [h] at hb; simp at hb; omega
    . exact h
  have e3 : a * D = N * b := by
    have h6 : (gcdI n d : Int) * (a * D) = gcdI n d * (N * b) := by
      rw [← Int.mul_assoc, ← ha, e]
      conv => lhs; rw [hb]
      grind
    exact Int.eq_of_mul_eq_mul_left hg' h6
  have hbD : b <= D := by
    have h7 : b.natAbs ∣ a.natAbs * D.natAbs := ⟨N.natAbs, by rw [← Int.natAbs_mul, e3, Int.natAbs_mul, Nat.mul_comm]⟩
    have h8 : Nat.Coprime b.natAbs a.natAbs := by
      have : Nat.Coprime a.natAbs b.natAbs := hco
      exact this.symm
    have h9 := Nat.le_of_dvd (by omega) (h8.dvd_of_dvd_mul_left h7)
    omega
  have haN : a.natAbs <= N.natAbs := by
    have h7 : a.natAbs * D.natAbs = N.natAbs * b.natAbs := by rw [← Int.natAbs_mul, e3, Int.natAbs_mul]
    have h8 : N.natAbs * b.natAbs <= N.natAbs * D.natAbs := Nat.mul_le_mul_left _ (by omega)
    rw [← h7] at h8
    exact Nat.le_of_mul_le_mul_right h8 (by omega)
  have hr : q1jw (a, b) = true := by
    simp only [q1jw, Bool.and_eq_true, decide_eq_true_eq]
    exact ⟨⟨by omega, by omega⟩, hco⟩
  unfold redR
  rw [e1, e2, if_pos hr]
theorem q1vg {n d : Int} (hd : 0 < d) (h : (redR n d).2 = 0) : (redR n d).1.1 * d = n * (redR n d).1.2 /\ q1jw (redR n d).1 = true := by
  unfold redR at h ⊢
  split
  . rename_i h1
    refine ⟨?_, h1⟩
    obtain ⟨a, ha⟩ := q1uz n d
    obtain ⟨b, hb⟩ := q1v0 n d
    have hg := q1ht n d hd
    have hg' : (gcdI n d : Int) ≠ 0 := by omega
    have e1 : n.tdiv (gcdI n d) = a := by
      generalize (gcdI n d : Int) = g at ha hg'
      rw [ha]; exact Int.mul_tdiv_cancel_left _ hg'
    have e2 : d.tdiv (gcdI n d) = b := by
      generalize (gcdI n d : Int) = g at hb hg'
      rw [hb]; exact Int.mul_tdiv_cancel_left _ hg'
    simp only [e1, e2]
    generalize (gcdI n d : Int) = g at ha hb
    rw [ha, hb]; grind
  . rename_i h1; rw [if_neg h1] at h; simp at h
theorem q1ve {a b : Int × Int} (ha : q1jw a = true) (hb : q1jw b = true) (e : a.1 * b.2 = b.1 * a.2) : a = b := by
  have d1 := (q1v6 ha).2.2.1
  have d2 := (q1v6 hb).2.2.1
  simp only [q1jw, Bool.and_eq_true, decide_eq_true_eq] at ha hb
  have g1 : Nat.Coprime a.1.natAbs a.2.natAbs := ha.2
  have g2 : Nat.Coprime b.1.natAbs b.2.natAbs := hb.2
  have e' : a.1.natAbs * b.2.natAbs = b.1.natAbs * a.2.natAbs := by rw [← Int.natAbs_mul, ← Int.natAbs_mul, e]
  have k1 : a.2.natAbs ∣ b.2.natAbs := g1.symm.dvd_of_dvd_mul_left ⟨b.1.natAbs, by rw [e', Nat.mul_comm]⟩
  have k2 : b.2.natAbs ∣ a.2.natAbs := g2.symm.dvd_of_dvd_mul_left ⟨a.1.natAbs, by rw [← e', Nat.mul_comm]⟩
  have k3 := Nat.dvd_antisymm k1 k2
  have k4 : a.2 = b.2 := by omega
  rw [k4] at e
  have k5 : a.1 = b.1 := Int.eq_of_mul_eq_mul_right (by omega) e
  exact Prod.ext k5 k4
def isQ (D s : Int) (x : Int × Int) : Prop := q1jw x = true /\ x.1 * D = s * x.2
theorem q1v5 {D s : Int} (hD : 0 < D) {x y : Int × Int} (hx : isQ D s x) (hy : isQ D s y) : x = y := by
  refine q1ve hx.1 hy.1 ?_
  have h1 := hx.2
  have h2 := hy.2
  have : (x.1 * y.2) * D = (y.1 * x.2) * D := by grind
  exact Int.eq_of_mul_eq_mul_right (by omega) this
theorem q1vf {D s : Int} (hD : 0 < D) (hb : D <= 10000000) (h0 : 0 <= s) (h1 : s <= D) : isQ D s (redR s D).1 /\ (redR s D).2 = 0 := by
  have h2 : (redR s D).2 = 0 := fits hD hD rfl (by omega) (by omega) (by omega)
  obtain ⟨h3, h4⟩ := q1vg hD h2
  exact ⟨⟨h4, h3⟩, h2⟩
theorem q1u9 {D s t : Int} (hD : 0 < D) (hb : D <= 10000000) (h0 : 0 <= s) (h1 : 0 <= t) (h2 : s + t <= D) {x y : Int × Int} (hx : isQ D s x) (hy : isQ D t y) : addR x y = ((redR (s + t) D).1, 0) := by
  have dx := (q1v6 hx.1).2.2.1
  have dy := (q1v6 hy.1).2.2.1
  have hd : 0 < x.2 * y.2 := Int.mul_pos (by omega) (by omega)
  have e1 := hx.2
  have e2 := hy.2
  have e : (x.1 * y.2 + y.1 * x.2) * D = (s + t) * (x.2 * y.2) := by grind
  have hc := fits hd hD e (by omega) (by omega) (by omega)
  obtain ⟨h3, h4⟩ := q1vg hd hc
  have hq : isQ D (s + t) (redR (x.1 * y.2 + y.1 * x.2) (x.2 * y.2)).1 := by
    refine ⟨h4, ?_⟩
    generalize (redR (x.1 * y.2 + y.1 * x.2) (x.2 * y.2)).1 = z at h3
    have : (z.1 * D) * (x.2 * y.2) = ((s + t) * z.2) * (x.2 * y.2) := by
      have h5 : (z.1 * (x.2 * y.2)) * D = ((x.1 * y.2 + y.1 * x.2) * D) * z.2 := by rw [h3]; grind
      rw [e] at h5
      grind
    exact Int.eq_of_mul_eq_mul_right (by omega) this
  have := q1v5 hD hq (q1vf hD hb (show 0 <= s + t by omega) h2).1
  unfold addR
  rw [hx.1, hy.1]
  simp only [Bool.and_self, if_true]
  exact Prod.ext this hc
theorem q1ul {D s t : Int} (hD : 0 < D) {x y : Int × Int} (hx : isQ D s x) (hy : isQ D t y) : q1un x y = (if s < t then -1 else if t < s then 1 else 0, 0) := by
  have dx := (q1v6 hx.1).2.2.1
  have dy := (q1v6 hy.1).2.2.1
  have hp : 0 < x.2 * y.2 := Int.mul_pos (by omega) (by omega)
  have e1 := hx.2
  have e2 := hy.2
  have f1 : (x.1 * y.2) * D = s * (x.2 * y.2) := by grind
  have f2 : (y.1 * x.2) * D = t * (x.2 * y.2) := by grind
  unfold q1un
  rw [hx.1, hy.1]
  simp only [Bool.and_self, if_true, Prod.mk.injEq, and_true]
  unfold cmpR
  generalize x.1 * y.2 = A at f1
  generalize y.1 * x.2 = B at f2
  generalize x.2 * y.2 = p at hp f1 f2
  have key : ∀ A B s t : Int, A * D = s * p -> B * D = t * p -> s < t -> A < B := by
    intro A B s t h1 h2 h
    have h3 : s * p < t * p := Int.mul_lt_mul_of_pos_right h hp
    rw [← h1, ← h2] at h3
    exact Int.lt_of_mul_lt_mul_right h3 (by omega)
  rcases Int.lt_trichotomy s t with h | h | h
  . rw [if_pos (key A B s t f1 f2 h), if_pos h]
  . have : A = B := by
      rw [h] at f1
      exact Int.eq_of_mul_eq_mul_right (by omega) (f1.trans f2.symm)
    rw [if_neg (by omega), if_neg (by omega), if_neg (by omega), if_neg (by omega)]
  . rw [if_neg (by have := key B A t s f2 f1 h; omega), if_pos (key B A t s f2 f1 h), if_neg (by omega), if_pos h]
theorem q1vd {D : Int} (hD : 0 < D) (hb : D <= 10000000) : (redR D D).1 = (1, 1) :=
  q1v5 hD (q1vf hD hb (by omega) (Int.le_refl _)).1 ⟨by decide, by simp⟩
theorem q1vm {D : Int} : isQ D 0 (0, 1) := ⟨by decide, by simp⟩
section
attribute [-go_sem] q0i5 q0id fldC lenC idxC q0ip
theorem q1uo {v : Int} {holes : List (List Int)} {board dead : List Int} (h : (q1eo v holes board dead).2 = 0) :
    ∃ (N : Nat) (SS : List Int), q1eo v holes board dead = (SS.map (q1en N), 0) /\ q1v9 v holes board dead = (((maxI SS SS.length : Nat) : Int), (0 : Int)) /\ 1 <= N /\ N <= 60000 /\ SS.sum = 24 * (N : Int) /\ (∀ x ∈ SS, 0 <= x) /\ 1 <= SS.length /\ SS.length <= 4 := by
  unfold q1eo at h ⊢
  unfold q1v9
  by_cases h1 : q1eb v holes board dead = false
  . rw [if_pos h1] at h; simp at h
  . rw [if_neg h1] at h
    by_cases h2 : (q1ak holes board dead).length = 0
    . rw [if_pos h2] at h; simp at h
    . rw [if_neg h1, if_neg h2, if_neg h1, if_neg h2]
      obtain ⟨k, rfl, hk, hp⟩ := q1sm (by simpa using h1)
      rw [Int.toNat_natCast]
      have hsl : (q1qc k holes board dead).length = holes.length := q1q7 _ _ _ _
      have hb := q1q6 k holes (q1ak holes board dead) (q1ak holes board dead).length
      have hfew := q1al (holes := holes) (dead := dead) hp.2.2.1
      have h4 := hp.2.1
      have h2' := hp.1
      exact ⟨_, _, rfl, by rw [hsl], by omega, hfew, q1vk hk hp, fun x hx => (hb x hx).1, by omega, by omega⟩
theorem q1vl {l : List Int} (h : ∀ x ∈ l, 0 <= x) : ∀ i, 0 <= (l.take i).sum /\ (l.take i).sum <= l.sum := by
  induction l with
  | nil => intro i; simp
  | cons a l ih =>
    intro i
    have ha := h a (by simp)
    have ih := ih fun x hx => h x (by simp [hx])
    cases i with
    | zero => have := ih l.length; rw [List.take_length] at this; simp only [List.take_zero, List.sum_nil, List.sum_cons]; omega
    | succ i => have := ih i; simp only [List.take_succ_cons, List.sum_cons]; omega
theorem q1v7 (cs : List Int) (hc : q161 cs) (hl : cs.length <= 9223372036854775807) : Pure Try.prog 4 [bytes cs] (.b true) := by
  refine q1uv (by simp) ?_
  simp -implicitDefEqProofs only [eR', go_sem, q1ug]
  refine q006.p (q10g cs) [] rfl Try.call18 ?_ ?_
  . simp -implicitDefEqProofs only [aR', go_sem]
  simp -implicitDefEqProofs only [eR', go_sem]
  refine ⟨fun _ => trivial, fun hbg => ?_⟩
  have hl : cs.length <= 100000000000 := by simp at hbg; omega
  refine q006.exi (q1vh cs hc hl) [] [] rfl Try.call19 (by simp) ?_ (by simp) ?_ (.inl rfl) (fun y hy => ?_)
  . simp -implicitDefEqProofs only [sR', Nat.reduceEqDiff, ↓reduceIte]
  . simp -implicitDefEqProofs only [aR', go_sem]
  simp -implicitDefEqProofs only [cR', go_sem, q1sl, rows, ints]
  obtain ⟨⟨v, m⟩, B, D⟩ := y
  obtain ⟨h1, ⟨h2, h2'⟩, h3, h4⟩ := hy
  (try simp only [] at h1 h2 h2' h3 h4)
  (try simp only [])
  have hmf := Nat.le_trans (q1sn h2') (Nat.mul_le_mul_right 4 h2)
  have hei := q1ix v m B D (by omega) (by omega) (by omega) (by omega)
  have hes := q1oy v m B D (by omega) (by omega) (by omega) (by omega)
  have hli := q1v3 v m B D (by omega) (by omega) (by omega) (by omega)
  have hls := q1vi v m B D (by omega) (by omega) (by omega) (by omega)
  have hdi := q1iz v m B D (by omega) (by omega) (by omega) (by omega)
  have hds := q1p0 v m B D (by omega) (by omega) (by omega) (by omega)
  have hel := q1ep v m B D
  have hfa := fun h => q1uo (v := v) (holes := m) (board := B) (dead := D) h
  generalize q1eo v m B D = er at hei hes hel hfa
  generalize q1v9 v m B D = lr at hli hls hfa
  generalize q1eb v m B D = db at hdi hds
  obtain ⟨E, ec⟩ := er
  obtain ⟨la, lc⟩ := lr
  simp only [eqO] at hei hes hel hfa hli hls
  refine q006.res hei [] rfl Try.call10 ?_ (.inl rfl) ?_
  . simp -implicitDefEqProofs only [aR', go_sem]
  simp -implicitDefEqProofs only [cR', go_sem]
  refine q006.res hes [] rfl Try.call7 ?_ (.inl rfl) ?_
  . simp -implicitDefEqProofs only [aR', go_sem]
  simp -implicitDefEqProofs only [cR', go_sem]
  refine q006.p hli [] rfl Try.call20 ?_ ?_
  . simp -implicitDefEqProofs only [aR', go_sem]
  simp -implicitDefEqProofs only [eR', go_sem]
  refine q006.p hls [] rfl Try.call21 ?_ ?_
  . simp -implicitDefEqProofs only [aR', go_sem]
  simp -implicitDefEqProofs only [eR', go_sem]
  have hlk := q1v8 E E (by omega) (by omega)
  refine q006.p hlk [35, 43] rfl Try.call22 ?_ ?_
  . simp -implicitDefEqProofs only [aR', go_sem]
  simp -implicitDefEqProofs only [eR', go_sem]
  refine q006.p hdi [] rfl Try.call23 ?_ ?_
  . simp -implicitDefEqProofs only [aR', go_sem]
  simp -implicitDefEqProofs only [eR', go_sem]
  refine q006.p hds [] rfl Try.call24 ?_ ?_
  . simp -implicitDefEqProofs only [aR', go_sem]
  simp -implicitDefEqProofs only [eR', go_sem]
  refine ⟨fun _ => trivial, fun h0 => ?_⟩
  have h0 : ec = 0 := by simpa using h0
  obtain ⟨N, SS, e1, e2, hN1, hN2, hsum, hnn, hs1, hs4⟩ := hfa h0
  simp only [Prod.mk.injEq] at e1 e2
  obtain ⟨rfl, rfl⟩ := e1
  obtain ⟨rfl, rfl⟩ := e2
  have hEl : (SS.map (q1en N)).length = SS.length := List.length_map _
  have hD : (0 : Int) < 24 * (N : Int) := by omega
  have hDb : 24 * (N : Int) <= 10000000 := by omega
  have hlt := q0jx SS SS.length (Nat.le_refl _) (by omega)
  have hQ : ∀ i x, SS[i]? = some x -> isQ (24 * (N : Int)) x (q1en N x) /\ 0 <= x /\ (SS.take (i + 1)).sum = (SS.take i).sum + x := fun i x hx => by
    have hx0 := hnn x (List.mem_of_getElem? hx)
    have h5 : (SS.take (i + 1)).sum = (SS.take i).sum + x := by rw [q0uj hx, q0ud]
    have h6 := q1vl hnn i
    have h7 := q1vl hnn (i + 1)
    exact ⟨(q1vf hD hDb hx0 (by omega)).1, hx0, h5⟩
  refine SemC.loopR (σ := Nat) (fun i => St.of [(7, .own 95), (9, .own 96), (13, .t (.i (maxI SS SS.length : Nat))), (15, .own 15), (16, .t (.i i))] [(95, .arr 2 (ratC (SS.map (q1en N)))), (96, .arr 2 (ratC (SS.map (q1en N)))), (15, .box [.i (redR (SS.take i).sum (24 * (N : Int))).1.1, .i (redR (SS.take i).sum (24 * (N : Int))).1.2])]) (fun i => i <= SS.length) (fun i => SS.length - i) 0 (Weak.o _ _ [some 35, some 43, some 15] ?_ ?_) (by omega) fun i hi R hn' hr he => ?_
  . simp -implicitDefEqProofs only [wR', Nat.reduceBEq, Nat.reduceEqDiff, ↓reduceIte]
  . have hz : (redR 0 (24 * (N : Int))).1 = (0, 1) := q1v5 hD (q1vf hD hDb (by omega) (by omega)).1 q1vm
    refine ⟨⟨_, rfl, .refl _⟩, rfl, ⟨_, rfl, .refl _⟩, rfl, ⟨_, rfl, ?_⟩, rfl, trivial⟩
    rw [List.take_zero, List.sum_nil, hz]; exact .refl _
  . have hb := q1vl hnn i
    have hTq := (q1vf hD hDb hb.1 (by omega)).1
    rcases Nat.lt_or_ge i SS.length with h9 | h9
    . obtain ⟨x, hx⟩ : ∃ x, SS[i]? = some x := ⟨_, List.getElem?_eq_getElem h9⟩
      obtain ⟨y, hy⟩ : ∃ y, SS[maxI SS SS.length]? = some y := ⟨_, List.getElem?_eq_getElem hlt⟩
      obtain ⟨qx, x0, hsx⟩ := hQ i x hx
      obtain ⟨qy, y0, _⟩ := hQ _ y hy
      have hb2 := q1vl hnn (i + 1)
      have hadd := q1v1 (redR (SS.take i).sum (24 * (N : Int))).1 (q1en N x)
      rw [q1u9 hD hDb hb.1 x0 (by omega) hTq qx, ← hsx] at hadd
      have hadd : Pure Try.prog 25 [rat (redR (SS.take i).sum (24 * (N : Int))).1, rat (q1en N x)] (redT ((redR (SS.take (i + 1)).sum (24 * (N : Int))).1, 0)) := hadd
      have hcmp := q1v2 (q1en N x) (q1en N y)
      rw [q1ul hD qx qy] at hcmp
      have hxe : (SS.map (q1en N))[i]? = some (q1en N x) := by rw [List.getElem?_map, hx]; rfl
      have hye : (SS.map (q1en N))[maxI SS SS.length]? = some (q1en N y) := by rw [List.getElem?_map, hy]; rfl
      have hle := q0jy SS SS.length i h9
      have hft := q0jw SS SS.length i
      rw [List.getD_eq_getElem?_getD, List.getD_eq_getElem?_getD, hx, hy] at hle hft
      simp only [Option.getD_some] at hle hft
      simp only [redT, rat] at hadd hcmp
      simp -implicitDefEqProofs only [eR', go_sem, hEl, decide_eq_true (show (i : Int) < (SS.length : Int) by omega), q1n9 hxe, q1n9 hye]
      refine ⟨by omega, by rw [q0p0]; omega, by rw [q0p0]; omega, ?_⟩
      refine q004.pure hadd [] rfl Try.call25 (fun e R' hR => ?_) (by first | trivial | simp [T.noSh, T.noShL, rat]) (fun _ => rfl) ?_
      . simp -implicitDefEqProofs only [aR', go_sem]
      simp -implicitDefEqProofs only [eR', go_sem, q1n9 hxe, q1n9 hye]
      refine ⟨⟨by omega, by rw [q0p0]; omega, by rw [q0p0]; omega, by omega, by rw [q0p0]; omega, by rw [q0p0]; omega, ?_⟩, (q09v.refl _ _ _).upd _ (.inl (by simp))⟩
      rcases Int.lt_or_le x y with hxy | hxy
      . rw [if_pos hxy] at hcmp
        refine q004.pure hcmp [] rfl Try.call26 (fun e R' hR => ?_) (by first | trivial | simp [T.noSh, T.noShL, rat]) (fun _ => rfl) ?_
        . simp -implicitDefEqProofs only [aR', go_sem]
        simp -implicitDefEqProofs only [eR', go_sem]
        refine ⟨fun _ => ⟨fun h => absurd h (by decide), fun _ => ?_⟩, fun h => absurd h (by decide)⟩
        refine hn' _ (i + 1) (Weak.of _ _ [some 95, some 96, some 15] (by simp) (by simp) ?_ ⟨⟨_, rfl, .refl _⟩, rfl, ⟨_, rfl, .refl _⟩, rfl, ⟨_, rfl, .refl _⟩, rfl, trivial⟩) (by omega) (by omega)
        simp -implicitDefEqProofs only [wR', Nat.reduceBEq, Nat.reduceEqDiff, ↓reduceIte, q0lb h9 (by omega)]
      . rw [if_neg (by omega), if_neg (by omega)] at hcmp
        have hnl : ¬ (i : Int) < ((maxI SS SS.length : Nat) : Int) := fun h => by have := hft (by omega); omega
        refine q004.pure hcmp [] rfl Try.call26 (fun e R' hR => ?_) (by first | trivial | simp [T.noSh, T.noShL, rat]) (fun _ => rfl) ?_
        . simp -implicitDefEqProofs only [aR', go_sem]
        simp -implicitDefEqProofs only [eR', go_sem, decide_eq_false hnl]
        refine ⟨fun _ => ⟨fun _ => ?_, fun h => absurd h (by decide)⟩, fun h => absurd h (by decide)⟩
        refine hn' _ (i + 1) (Weak.of _ _ [some 95, some 96, some 15] (by simp) (by simp) ?_ ⟨⟨_, rfl, .refl _⟩, rfl, ⟨_, rfl, .refl _⟩, rfl, ⟨_, rfl, .refl _⟩, rfl, trivial⟩) (by omega) (by omega)
        simp -implicitDefEqProofs only [wR', Nat.reduceBEq, Nat.reduceEqDiff, ↓reduceIte, q0lb h9 (by omega)]
    . simp -implicitDefEqProofs only [eR', go_sem, hEl, decide_eq_false (show ¬ (i : Int) < (SS.length : Int) by omega)]
      refine he _ _ ?_
      rw [List.take_of_length_le h9, hsum, q1vd hD hDb]
      simp -implicitDefEqProofs only [eR', go_sem]
end
end Go.Ab

namespace Go.Proofs.Ytjeefbiiagflhaa
open Go.ChangeShapes Go.WideShapes Go.ChangeAt Go.RowKit Go.Ab

namespace fnEquities
theorem said : ∀ xs, wtL [q168] xs -> Pure Try.prog 4 xs (.b true)
  | [x], h => by
    obtain ⟨cs, rfl, hl, hc⟩ := q169 h.1
    exact q1v7 cs hc (by omega)
  | [], h => h.elim
  | _ :: _ :: _, h => h.2.elim

set_option maxRecDepth 100000 in
theorem lifted (os : Os) (started : os.Started) (H : Type) (enc : TypeId × Value -> H) :
    ReturnsInHanded {} Try.checked os 4 .any (Rows.fnEquitiesSpec.pre6 enc Try.prog Try.f4 Rows.fnEquitiesRow.domain false) (Rows.fnEquitiesSpec.post enc Try.prog Try.f4 false true false false) := by
  refine returnsInHanded_of_change (C := Try.checked) (by kernel_rfl) started (by kernel_rfl) Try.func4
    (ChangeSpec.witness6 (enc := enc) (C := Try.checked) false ⟨#[], #[.slice none 0 0], []⟩ 8 (by kernel_rfl) (by kernel_rfl) (by kernel_rfl) (by kernel_rfl)) ?_
  intro W base args ds gs before hval hW _ _
  refine q0hc (tys := [q168]) (by kernel_rfl) (by kernel_rfl) rfl (by kernel_rfl) rfl (fun ds h => ?_) said W base args ds gs before hval hW
  match ds, h with
  | [d0], _ => rfl

theorem andT {a b : Bool} (ha : a = true) (hb : b = true) : (a && b) = true := by rw [ha, hb]; rfl
theorem q0g8 : ((Rows.fnEquitiesRow.wf (OpenSpec.ofChange Rows.fnEquitiesSpec))) = true := by kernel_rfl
theorem q0g9 : (laidOutB Try.prog) = true := Try.laidOutT
theorem q0gk : (mapsRowed Try.prog) = true := Try.mapsRowedT
theorem q0gv : (Try.f4.params.all (Try.prog.readableRec ·)) = true := by kernel_rfl
theorem q0gy : (namedTie Try.prog Rows.fnEquitiesRow.named Rows.fnEquitiesSpec.vars) = true := by kernel_rfl
theorem q0gz : ((Rows.fnEquitiesRow.stops == [])) = true := by kernel_rfl
theorem q0h0 : ((Try.prog.stops == [])) = true := by kernel_rfl
theorem q0h1 : ((Rows.fnEquitiesRow.knobs == [])) = true := by kernel_rfl
theorem q0h2 : ((Try.prog.stopKnobs == [])) = true := by kernel_rfl
theorem q0h3 : ((Rows.fnEquitiesRow.inPlace == Try.prog.inPlace 4)) = true := by kernel_rfl
theorem q0ga : ((Rows.fnEquitiesRow.unfollowed == Try.prog.unfollowed 4)) = true := by kernel_rfl
theorem q0gb : ((Rows.fnEquitiesRow.recurses == Try.prog.recurses 4)) = true := by kernel_rfl
theorem q0gc : ((Rows.fnEquitiesRow.named == Try.prog.varsNamed 4)) = true := by kernel_rfl
theorem q0gd : ((Rows.fnEquitiesRow.maps == (Try.f4.params.toList ++ Rows.fnEquitiesSpec.plain.varTypes Try.prog).any (Try.prog.mapsRec ·))) = true := by kernel_rfl
theorem q0ge : ((Rows.fnEquitiesRow.ifaces == (Try.f4.params.toList ++ Rows.fnEquitiesSpec.plain.varTypes Try.prog).any (Try.prog.ifacesRec ·))) = true := by kernel_rfl
theorem q0gf : ((Rows.fnEquitiesRow.mapsOut == Try.prog.mapsAmong Try.f4.resultTypes.toList)) = true := by kernel_rfl
theorem q0gg : ((Rows.fnEquitiesRow.loops == (Try.f4.params.toList ++ Rows.fnEquitiesSpec.plain.varTypes Try.prog).any (Try.prog.loopsFrom ·))) = true := by kernel_rfl
theorem q0gh : ((Rows.fnEquitiesRow.wideKeys == (Try.f4.params.toList ++ Rows.fnEquitiesSpec.plain.varTypes Try.prog ++ Try.f4.resultTypes.toList).any (Try.prog.wideKeysFrom ·))) = true := by kernel_rfl
theorem q0gi : (Rows.fnEquitiesSpec.vars.all (Try.prog.varReadable ·)) = true := by kernel_rfl
theorem q0gj : (Try.f4.resultTypes.all (fun t => Try.prog.readableRec t && decide (t < Try.prog.types.size))) = true := by kernel_rfl
theorem q0gl : ((Rows.fnEquitiesRow.ifacesOut == Try.f4.resultTypes.toList.any (Try.prog.ifacesRec ·))) = true := by kernel_rfl
theorem q0gm : ((Rows.fnEquitiesRow.loopsOut == Try.f4.resultTypes.toList.any (Try.prog.loopsFrom ·))) = true := by kernel_rfl
theorem q0gn : ((Rows.fnEquitiesRow.plainKeys == Try.prog.plainKeys)) = true := by kernel_rfl
theorem q0go : (Rows.fnEquitiesRow.shortTexts.isNone) = true := by kernel_rfl
theorem q0gp : (Try.prog.stopsHeard) = true := Try.heardT
theorem q0gq : (Try.prog.mayEnter) = true := Try.mayEnterT
theorem q0gr : ((Rows.fnEquitiesRow.lifted == Try.prog.liftsFinal)) = true := (by rw [Try.liftsF]; rfl)
theorem q0gs : ((Try.prog.make == some Rows.fnEquitiesRow.make)) = true := (by rw [Try.makeC]; rfl)
theorem q0gt : ((Rows.fnEquitiesRow.kinds == (if Rows.fnEquitiesRow.domain.isEmpty then [] else Try.f4.params.toList.map fun t => match Try.prog.underlying t with | some (.int k) => some k | _ => none))) = true := by kernel_rfl
theorem q0gu : ((Rows.fnEquitiesRow.pinned == Rows.fnEquitiesRow.pinnedBy)) = true := by kernel_rfl
theorem q0gw : ((Rows.fnEquitiesRow.veiled == (Try.f4.params.toList ++ Rows.fnEquitiesSpec.plain.varTypes Try.prog ++ Try.f4.resultTypes.toList).any (Try.prog.veiledRec ·))) = true := by kernel_rfl
theorem q0gx : (Rows.fnEquitiesRow.veiledFits Try.prog Try.f4.params.toList (Try.f4.params.toList ++ Rows.fnEquitiesSpec.plain.varTypes Try.prog ++ Try.f4.resultTypes.toList)) = true := by kernel_rfl
set_option maxRecDepth 100000 in
theorem joined : joinedFacts Try.prog 4 Try.f4 Rows.fnEquitiesSpec Rows.fnEquitiesRow = true := by
  unfold joinedFacts
  exact andT (andT (andT (andT (andT (andT (andT (andT (andT (andT (andT (andT (andT (andT (andT (andT (andT (andT (andT (andT (andT (andT (andT (andT (andT (andT (andT (andT (andT (andT (andT (q0g8) q0g9) q0gk) q0gv) q0gy) q0gz) q0h0) q0h1) q0h2) q0h3) q0ga) q0gb) q0gc) q0gd) q0ge) q0gf) q0gg) q0gh) q0gi) q0gj) q0gl) q0gm) q0gn) q0go) q0gp) q0gq) q0gr) q0gs) q0gt) q0gu) q0gw) q0gx
theorem over : Rows.fnEquitiesRow.holds Try.pinned (OpenSpec.ofChange Rows.fnEquitiesSpec) :=
  OpenClaim.holds_of_wide 4 Try.f4 rfl rfl rfl rfl rfl rfl rfl ⟨rfl, rfl, rfl, rfl, rfl⟩ rfl rfl rfl rfl rfl (by kernel_rfl) Try.func4 joined
    (of_decide_eq_true (by kernel_rfl)) (by unfold Func.isWrapper; first | (rw [if_pos (by decide +kernel)]; kernel_rfl) | (rw [if_neg (by decide +kernel)]; exact ⟨rfl, rfl⟩))
    (fun os started H enc _ => lifted os started H enc)
end fnEquities

theorem fnEquities_holds : Rows.FnEquitiesSaid := fnEquities.over
#print axioms fnEquities_holds
end Go.Proofs.Ytjeefbiiagflhaa
