/- The law of curves. No conditions. -/
import Derived.Test.YtkmmkgpnlmdcfaaRows
import Derived.Test.YtkmmkgpnlmdcfaaQ7
set_option linter.unusedSimpArgs false
set_option linter.unusedVariables false
set_option maxRecDepth 20000
/- Contracts: curves of runs. -/
namespace Go.Ab
open Go.Proofs
def crO (r : List Int × Int) : T := .tup [intsO r.1, .i r.2]
theorem crLe {f : FuncId} {args : List A} {R : List Int × Int} (h : Fun Try.prog f [] args fun o r => o = [] /\ (r = crO R ∨ ∃ c, R = ([], c) /\ r = .tup [.v (.slice none 0 0), .i c])) : Fun Try.prog f [] args fun o r => o = [] /\ r = crO R := by
  refine Fun.le h ?_
  rintro o r ⟨rfl, rfl | ⟨c, e, rfl⟩⟩
  . exact ⟨_, .refl _, rfl, rfl⟩
  . refine ⟨crO R, ?_, rfl, rfl⟩
    rw [e]
    exact .tup2 (.nilArr _) (.refl _)
theorem q0yz {g : Gm} {n : Int} (h : q15a g 0 n ≠ 0) : crvR g n = ([], q15a g 0 n) := by rw [crvR, if_neg h]
theorem q0z0 {g : Gm} {n : Int} (h : q15a g 0 n = 0) : crvR g n = (curL g (n.toNat + 1), 0) := by rw [crvR, if_pos h]
theorem q026 {g : Gm} {n : Int} (h : q15a g 0 n ≠ 0) : bitR g n = (0, q15a g 0 n) := by rw [bitR, if_neg h]
theorem q027 {g : Gm} {n : Int} (h : q15a g 0 n = 0) : bitR g n = ((argL (curL g (n.toNat + 1)) : Int), 0) := by rw [bitR, if_pos h]
section
attribute [-go_sem] q0i5 q0id fldC lenC idxC q0ip q0lp
set_option maxHeartbeats 1000000 in
theorem q0sv (g : Gm) (hgl : q0cf g) (hg : q0fl g = true) (N : Nat) (hN : N <= 900) : Fun Try.prog 114 [] [.t (.agg [.sh 5 (chunk q0lu g.nd), .sh 1 (g.w.map ints), .sh 1 (g.v.map ints)]), .t (.i N)] fun o r => o = [] /\ r = intsO (curL g (N + 1)) := by
  refine q0c8 (by simp) ?_
  simp -implicitDefEqProofs only [eR', go_sem, q05a, opR, Nat.reduceBEq]
  have hp := q0sx g hg
  simp only [ssB, nodes, rows, q0qa] at hp
  refine q006.res hp [] rfl Try.call168 ?_ (.inl rfl) ?_
  . simp -implicitDefEqProofs only [aR', go_sem]
  simp -implicitDefEqProofs only [cR', go_sem]
  refine SemC.loopR (σ := Nat) (fun k => St.of [(1, .t (.i N)), (2, .own 2), (5, .own 111), (6, .own 112), (7, .t (.i k))] [(2, .box [nodes g.nd, rows g.w, rows g.v]), (111, ssB g (q15i g (k - 1))), (112, intsO (curL g k))]) (fun k => k <= N + 1) (fun k => N + 1 - k) 0 (Weak.o _ _ [some 2, some 11, some 12] ?_ ?_) (by omega) fun k hk R hn hr he => ?_
  . simp -implicitDefEqProofs only [wR', Nat.reduceBEq, Nat.reduceEqDiff, ↓reduceIte, nodes]
  . exact ⟨⟨_, rfl, .refl _⟩, rfl, ⟨_, rfl, .refl _⟩, rfl, ⟨_, rfl, .refl _⟩, rfl, trivial⟩
  rcases Nat.lt_or_ge k (N + 1) with h9 | h9
  . have hok := q15j hg k (by omega)
    have hs0 := q0t0 0 (q15i g k).s0 (q0m9 hg (.inl rfl) hok.2.2.1) (by omega)
    have hs1 := q0t0 1 (q15i g k).s1 (q0m9 hg (.inr rfl) hok.2.2.2) (by omega)
    have hpr := (q15k hg (show k <= 1000 by omega)).2
    have hb := vb_t (q0so g _ _ hpr)
    have hea := q08v hpr
    have hcl : (curL g k).length = k := q14d g k
    have hec : curI g k = q01x g (1, stM (q15i g k).s1) + q01x g (0, stM (q15i g k).s0) := rfl
    have hee : expN g (0, stM (q15i g k).s0) (1, stM (q15i g k).s1) = q01x g (1, stM (q15i g k).s1) + q01x g (0, stM (q15i g k).s0) := rfl
    rw [hee] at hea
    generalize q01x g (1, stM (q15i g k).s1) = b1 at hb hea hec
    generalize q01x g (0, stM (q15i g k).s0) = b0 at hb hea hec
    by_cases hk0 : k = 0
    . rw [show k - 1 = k by omega]
      simp -implicitDefEqProofs only [eR', go_sem, ssB, nodes, q0qa, intsO, decide_eq_true (show (k : Int) <= (N : Int) by omega), decide_eq_false (show ¬ (k : Int) > 0 by omega), opR, Nat.reduceBEq]
      refine ⟨_, Weak.trans (Weak.open 111 4 501 rfl rfl rfl (by decide) rfl) (Weak.trans (Weak.open 501 0 502 rfl rfl rfl (by decide) rfl) (Weak.open 501 1 503 rfl rfl rfl (by decide) rfl)), ?_⟩
      simp -implicitDefEqProofs only [eR', go_sem, q0qa, nodes, opR, Nat.reduceBEq]
      refine q000.res hs0 [502] rfl Try.call111 (fun e R' hR => ?_) (.inr ⟨trivial, q0qb _, trivial⟩) ?_
      . have hq502 := (hR 502).resolve_left (by simp -implicitDefEqProofs only [eR', go_sem, not_false_eq_true])
        simp -implicitDefEqProofs only [eR', go_sem] at hq502
        simp -implicitDefEqProofs only [aR', go_sem, hq502]
      simp -implicitDefEqProofs only [cR', go_sem, opR, Nat.reduceBEq]
      refine q000.res hs1 [503] rfl Try.call111 (fun e R' hR => ?_) (.inr ⟨trivial, q0qb _, trivial⟩) ?_
      . have hq503 := (hR 503).resolve_left (by simp -implicitDefEqProofs only [eR', go_sem, not_false_eq_true])
        simp -implicitDefEqProofs only [eR', go_sem] at hq503
        simp -implicitDefEqProofs only [aR', go_sem, hq503]
      simp -implicitDefEqProofs only [cR', go_sem, opR, Nat.reduceBEq]
      refine q004.pure hb [30, 37] rfl Try.call124 (fun e R' hR => ?_) (by first | trivial | simp [T.noSh, T.noShL, rat]) (fun _ => rfl) ?_
      . have hq30 := (hR 30).resolve_left (by simp -implicitDefEqProofs only [eR', go_sem, not_false_eq_true]); have hq37 := (hR 37).resolve_left (by simp -implicitDefEqProofs only [eR', go_sem, not_false_eq_true])
        simp -implicitDefEqProofs only [eR', go_sem] at hq30 hq37
        simp -implicitDefEqProofs only [aR', go_sem, hq30, hq37]
      simp -implicitDefEqProofs only [eR', go_sem, intsO, hcl, opR, Nat.reduceBEq]
      repeat (first | refine ⟨by omega, ?_⟩ | refine ⟨by rw [q0l0]; omega, ?_⟩)
      refine hn _ (k + 1) (Weak.trans (Weak.close 501 1 503 rfl rfl (by decide) rfl (by simp)) (Weak.trans (Weak.close1 501 0 502 rfl rfl (by decide) rfl) (Weak.trans (Weak.close1 111 4 501 rfl rfl (by decide) rfl) (Weak.o _ _ [some 2, some 111, some 46] ?_ ?_)))) (by omega) (by omega)
      . simp -implicitDefEqProofs only [wR', Nat.reduceBEq, Nat.reduceEqDiff, ↓reduceIte, nodes, wrap64 (n := (k : Int) + 1) (by omega) (by omega), Int.natCast_add, Int.cast_ofNat_Int]
      . refine ⟨⟨_, rfl, .refl _⟩, rfl, ⟨_, rfl, ?_⟩, rfl, ⟨_, rfl, ?_⟩, rfl, trivial⟩
        . rw [Nat.add_sub_cancel, ssB, q0qa, q0qa, q0qa, q0qa, nodes, rows, rows]; exact .refl _
        . rw [q14f, intsO, List.map_append, hec]; rw [wrap64 (by omega) (by omega)]; exact .refl _
    . have hst := q0sz g hg (q15i g (k - 1)) (n := k - 1) (by omega) (q15j hg (k - 1) (by omega))
      rw [show q15q g (q15i g (k - 1)) = q15i g k by cases k with | zero => omega | succ j => rfl] at hst
      simp -implicitDefEqProofs only [eR', go_sem, nodes, q0qa, intsO, decide_eq_true (show (k : Int) <= (N : Int) by omega), decide_eq_true (show (k : Int) > 0 by omega), opR, Nat.reduceBEq]
      refine q006.ref hst [111] [] rfl Try.call169 (by simp) ?_ (by simp) ?_ (.inl rfl) ?_
      . simp -implicitDefEqProofs only [sR', Nat.reduceEqDiff, ↓reduceIte]
      . simp -implicitDefEqProofs only [aR', go_sem]
      simp -implicitDefEqProofs only [cR', go_sem, ssB, nodes, rows, q0qa, opR, Nat.reduceBEq]
      refine ⟨_, Weak.trans (Weak.open 111 4 501 rfl rfl rfl (by decide) rfl) (Weak.trans (Weak.open 501 0 502 rfl rfl rfl (by decide) rfl) (Weak.open 501 1 503 rfl rfl rfl (by decide) rfl)), ?_⟩
      simp -implicitDefEqProofs only [eR', go_sem, q0qa, nodes, opR, Nat.reduceBEq]
      refine q000.res hs0 [502] rfl Try.call111 (fun e R' hR => ?_) (.inr ⟨trivial, q0qb _, trivial⟩) ?_
      . have hq502 := (hR 502).resolve_left (by simp -implicitDefEqProofs only [eR', go_sem, not_false_eq_true])
        simp -implicitDefEqProofs only [eR', go_sem] at hq502
        simp -implicitDefEqProofs only [aR', go_sem, hq502]
      simp -implicitDefEqProofs only [cR', go_sem, opR, Nat.reduceBEq]
      refine q000.res hs1 [503] rfl Try.call111 (fun e R' hR => ?_) (.inr ⟨trivial, q0qb _, trivial⟩) ?_
      . have hq503 := (hR 503).resolve_left (by simp -implicitDefEqProofs only [eR', go_sem, not_false_eq_true])
        simp -implicitDefEqProofs only [eR', go_sem] at hq503
        simp -implicitDefEqProofs only [aR', go_sem, hq503]
      simp -implicitDefEqProofs only [cR', go_sem, opR, Nat.reduceBEq]
      refine q004.pure hb [30, 37] rfl Try.call124 (fun e R' hR => ?_) (by first | trivial | simp [T.noSh, T.noShL, rat]) (fun _ => rfl) ?_
      . have hq30 := (hR 30).resolve_left (by simp -implicitDefEqProofs only [eR', go_sem, not_false_eq_true]); have hq37 := (hR 37).resolve_left (by simp -implicitDefEqProofs only [eR', go_sem, not_false_eq_true])
        simp -implicitDefEqProofs only [eR', go_sem] at hq30 hq37
        simp -implicitDefEqProofs only [aR', go_sem, hq30, hq37]
      simp -implicitDefEqProofs only [eR', go_sem, intsO, hcl, opR, Nat.reduceBEq]
      repeat (first | refine ⟨by omega, ?_⟩ | refine ⟨by rw [q0l0]; omega, ?_⟩)
      refine hn _ (k + 1) (Weak.trans (Weak.close 501 1 503 rfl rfl (by decide) rfl (by simp)) (Weak.trans (Weak.close1 501 0 502 rfl rfl (by decide) rfl) (Weak.trans (Weak.close1 111 4 501 rfl rfl (by decide) rfl) (Weak.o _ _ [some 2, some 111, some 46] ?_ ?_)))) (by omega) (by omega)
      . simp -implicitDefEqProofs only [wR', Nat.reduceBEq, Nat.reduceEqDiff, ↓reduceIte, nodes, wrap64 (n := (k : Int) + 1) (by omega) (by omega), Int.natCast_add, Int.cast_ofNat_Int]
      . refine ⟨⟨_, rfl, .refl _⟩, rfl, ⟨_, rfl, ?_⟩, rfl, ⟨_, rfl, ?_⟩, rfl, trivial⟩
        . rw [Nat.add_sub_cancel, ssB, q0qa, q0qa, q0qa, q0qa, nodes, rows, rows]; exact .refl _
        . rw [q14f, intsO, List.map_append, hec]; rw [wrap64 (by omega) (by omega)]; exact .refl _
  . simp -implicitDefEqProofs only [eR', go_sem, nodes, q0qa, intsO, decide_eq_false (show ¬ (k : Int) <= (N : Int) by omega), opR, Nat.reduceBEq]
    refine he _ _ ?_
    simp -implicitDefEqProofs only [eR', go_sem, intsO, show k = N + 1 by omega]
set_option maxHeartbeats 1000000 in
theorem q0f3 (g : Gm) (hgl : q0cf g) (hg : q0fl g = true) (N : Nat) (hN : N <= 900) : Fun Try.prog 116 [] [.t (.agg [.sh 5 (chunk q0lu g.nd), .sh 1 (g.w.map ints), .sh 1 (g.v.map ints)]), .t (.i N)] fun o r => o = [] /\ r = intsO (curL g (N + 1)) := by
  refine q0ar (by simp) ?_
  simp -implicitDefEqProofs only [eR', go_sem, q03t, opR, Nat.reduceBEq]
  have hp := q0er g hg
  simp only [rsB, nodes, rows, q0qa] at hp
  refine q006.res hp [] rfl Try.call170 ?_ (.inl rfl) ?_
  . simp -implicitDefEqProofs only [aR', go_sem]
  simp -implicitDefEqProofs only [cR', go_sem]
  refine SemC.loopR (σ := Nat) (fun k => St.of [(2, .own 2), (5, .own 111), (6, .own 112), (13, .t (.i (N + 1 : Nat))), (14, .t (.i k))] [(2, .box [nodes g.nd, rows g.w, rows g.v]), (111, rsB g (q15i g (k - 1))), (112, intsO (curL g k))]) (fun k => k <= N + 1) (fun k => N + 1 - k) 0 (Weak.o _ _ [some 2, some 11, none] ?_ ?_) (by omega) fun k hk R hn hr he => ?_
  . simp -implicitDefEqProofs only [wR', Nat.reduceBEq, Nat.reduceEqDiff, ↓reduceIte, nodes, wrap64 (n := (N : Int) + 1) (by omega) (by omega), Int.natCast_add, Int.cast_ofNat_Int]
  . exact ⟨⟨_, rfl, .refl _⟩, rfl, ⟨_, rfl, .refl _⟩, rfl, ⟨1, rfl⟩, trivial⟩
  rcases Nat.lt_or_ge k (N + 1) with h9 | h9
  . have hok := q15j hg k (by omega)
    have hav := q0eh g (q15i g k) (q0m9 hg (.inl rfl) hok.2.2.1) (q0m9 hg (.inr rfl) hok.2.2.2) (by omega)
    have hpr := (q15k hg (show k <= 1000 by omega)).2
    have hb := vb_t (q0el g _ _ hpr)
    have hcl : (curL g k).length = k := q14d g k
    have hec : expN g (0, stM (q15i g k).s0) (1, stM (q15i g k).s1) = curI g k := rfl
    rw [hec] at hb
    by_cases hk0 : k = 0
    . rw [show k - 1 = k by omega]
      simp -implicitDefEqProofs only [eR', go_sem, rsB, nodes, q0qa, intsO, decide_eq_true (show (k : Int) < ((N + 1 : Nat) : Int) by omega), decide_eq_false (show ¬ (k : Int) > 0 by omega), opR, Nat.reduceBEq]
      refine q006.res hav [111] rfl Try.call113 ?_ (.inr (q07s _ _)) ?_
      . simp -implicitDefEqProofs only [aR', go_sem, T.toShL.eq_1, T.toShL.eq_2, q0vg]
      simp -implicitDefEqProofs only [cR', go_sem, opR, Nat.reduceBEq]
      refine q006.p hb [29002, 30002] rfl Try.call128 ?_ ?_
      . simp -implicitDefEqProofs only [aR', go_sem]
      simp -implicitDefEqProofs only [eR', go_sem, intsO, hcl, opR, Nat.reduceBEq]
      repeat (first | refine ⟨by omega, ?_⟩ | refine ⟨by rw [q0l0]; omega, ?_⟩)
      refine hn _ (k + 1) (Weak.o _ _ [some 2, some 111, some 32] ?_ ?_) (by omega) (by omega)
      . simp -implicitDefEqProofs only [wR', Nat.reduceBEq, Nat.reduceEqDiff, ↓reduceIte, nodes, q0lb h9 (by omega)]
      . refine ⟨⟨_, rfl, .refl _⟩, rfl, ⟨_, rfl, ?_⟩, rfl, ⟨_, rfl, ?_⟩, rfl, trivial⟩
        . rw [Nat.add_sub_cancel, rsB, q0qa, q0qa, q0qa, q0qa, nodes, rows, rows]; exact .refl _
        . rw [q14f, intsO, List.map_append]; exact .refl _
    . have hst := q0ep g hg (q15i g (k - 1)) (n := k - 1) (by omega) (q15j hg (k - 1) (by omega))
      rw [show q15q g (q15i g (k - 1)) = q15i g k by cases k with | zero => omega | succ j => rfl] at hst
      simp -implicitDefEqProofs only [eR', go_sem, nodes, q0qa, intsO, decide_eq_true (show (k : Int) < ((N + 1 : Nat) : Int) by omega), decide_eq_true (show (k : Int) > 0 by omega), opR, Nat.reduceBEq]
      refine q006.ref hst [111] [] rfl Try.call171 (by simp) ?_ (by simp) ?_ (.inl rfl) ?_
      . simp -implicitDefEqProofs only [sR', Nat.reduceEqDiff, ↓reduceIte]
      . simp -implicitDefEqProofs only [aR', go_sem]
      simp -implicitDefEqProofs only [cR', go_sem, rsB, nodes, rows, q0qa, opR, Nat.reduceBEq]
      refine q006.res hav [111] rfl Try.call113 ?_ (.inr (q07s _ _)) ?_
      . simp -implicitDefEqProofs only [aR', go_sem, T.toShL.eq_1, T.toShL.eq_2, q0vg]
      simp -implicitDefEqProofs only [cR', go_sem, opR, Nat.reduceBEq]
      refine q006.p hb [29002, 30002] rfl Try.call128 ?_ ?_
      . simp -implicitDefEqProofs only [aR', go_sem]
      simp -implicitDefEqProofs only [eR', go_sem, intsO, hcl, opR, Nat.reduceBEq]
      repeat (first | refine ⟨by omega, ?_⟩ | refine ⟨by rw [q0l0]; omega, ?_⟩)
      refine hn _ (k + 1) (Weak.o _ _ [some 2, some 111, some 32] ?_ ?_) (by omega) (by omega)
      . simp -implicitDefEqProofs only [wR', Nat.reduceBEq, Nat.reduceEqDiff, ↓reduceIte, nodes, q0lb h9 (by omega)]
      . refine ⟨⟨_, rfl, .refl _⟩, rfl, ⟨_, rfl, ?_⟩, rfl, ⟨_, rfl, ?_⟩, rfl, trivial⟩
        . rw [Nat.add_sub_cancel, rsB, q0qa, q0qa, q0qa, q0qa, nodes, rows, rows]; exact .refl _
        . rw [q14f, intsO, List.map_append]; exact .refl _
  . simp -implicitDefEqProofs only [eR', go_sem, nodes, q0qa, intsO, decide_eq_false (show ¬ (k : Int) < ((N + 1 : Nat) : Int) by omega), opR, Nat.reduceBEq]
    refine he _ _ ?_
    simp -implicitDefEqProofs only [eR', go_sem, intsO, show k = N + 1 by omega]
theorem q106 (g : Gm) (n : Int) (hg : q0cf g) : Fun Try.prog 47 [] [.t (q0ck g), .t (.i n)] fun o r => o = [] /\ r = crO (crvR g n) := by
  refine crLe ?_
  refine q0zd (by simp) ?_
  simp -implicitDefEqProofs only [eR', go_sem, q0y8, q0ck, nodes]
  have hq := q0fq (q0ee g hg)
  rcases Bool.eq_false_or_eq_true (q0fl g) with hgb | hgb
  . rw [hgb] at hq
    refine q006.p hq [] rfl Try.call115 ?_ ?_
    . simp -implicitDefEqProofs only [aR', go_sem]
    simp -implicitDefEqProofs only [eR', go_sem]
    have hq := q0f9 n 0 30
    by_cases hn : 0 <= n /\ n <= 30
    . rw [decide_eq_true hn] at hq
      refine q006.p hq [] rfl Try.call110 ?_ ?_
      . simp -implicitDefEqProofs only [aR', go_sem]
      simp -implicitDefEqProofs only [eR', go_sem]
      have hp := q0f3 g hg hgb n.toNat (by omega)
      rw [show ((n.toNat : Nat) : Int) = n by omega] at hp
      simp only [intsO] at hp
      refine q006.res hp [] rfl Try.call116 ?_ (.inl rfl) ?_
      . simp -implicitDefEqProofs only [aR', go_sem]
      simp -implicitDefEqProofs only [cR', go_sem]
      rw [q0z0 (q15d.2 ⟨hgb, hn, by omega⟩)]
      exact .inl rfl
    . rw [decide_eq_false hn] at hq
      refine q006.p hq [] rfl Try.call110 ?_ ?_
      . simp -implicitDefEqProofs only [aR', go_sem]
      simp -implicitDefEqProofs only [eR', go_sem]
      have hc := q15c hgb (fun h => hn h.1 : ¬ ((0 <= n /\ n <= 30) /\ (0 <= (0 : Int) /\ (0 : Int) <= 1)))
      exact .inr ⟨2, by rw [q0yz (by rw [hc]; decide), hc], rfl⟩
  . rw [hgb] at hq
    refine q006.p hq [] rfl Try.call115 ?_ ?_
    . simp -implicitDefEqProofs only [aR', go_sem]
    simp -implicitDefEqProofs only [eR', go_sem]
    have hc := q15b (pl := 0) (n := n) hgb
    exact .inr ⟨1, by rw [q0yz (by rw [hc]; decide), hc], rfl⟩
theorem q11y (g : Gm) (n : Int) (hg : q0cf g) : Fun Try.prog 46 [] [.t (q0ck g), .t (.i n)] fun o r => o = [] /\ r = crO (crvR g n) := by
  refine crLe ?_
  refine q0zl (by simp) ?_
  simp -implicitDefEqProofs only [eR', go_sem, q0yg, q0ck, nodes]
  refine q006.p (q0ss g 0 n hg) [] rfl Try.call107 ?_ ?_
  . simp -implicitDefEqProofs only [aR', go_sem]
  simp -implicitDefEqProofs only [eR', go_sem]
  by_cases hc : q15a g 0 n = 0
  . obtain ⟨hgb, hn, hpl⟩ := q15d.1 hc
    rw [hc]
    refine ⟨fun h => by simp at h, fun _ => ?_⟩
    have hp := q0sv g hg hgb n.toNat (by omega)
    rw [show ((n.toNat : Nat) : Int) = n by omega] at hp
    simp only [intsO] at hp
    refine q006.res hp [] rfl Try.call114 ?_ (.inl rfl) ?_
    . simp -implicitDefEqProofs only [aR', go_sem]
    simp -implicitDefEqProofs only [cR', go_sem]
    rw [q0z0 hc]
    exact .inl rfl
  . refine ⟨fun _ => .inr ⟨q15a g 0 n, q0yz hc, rfl⟩, fun h => absurd (by simpa using h) hc⟩
theorem q0ed (g : Gm) (n : Int) (hg : q0cf g) : Pure Try.prog 45 [q0ck g, .i n] (tr2 (bitR g n)) := by
  refine q0a8 (by simp) ?_
  simp -implicitDefEqProofs only [eR', go_sem, q03a, q0ck, nodes]
  have hq := q0fq (q0ee g hg)
  rcases Bool.eq_false_or_eq_true (q0fl g) with hgb | hgb
  . rw [hgb] at hq
    refine q006.p hq [] rfl Try.call115 ?_ ?_
    . simp -implicitDefEqProofs only [aR', go_sem]
    simp -implicitDefEqProofs only [eR', go_sem]
    have hq := q0f9 n 0 30
    by_cases hn : 0 <= n /\ n <= 30
    . rw [decide_eq_true hn] at hq
      refine q006.p hq [] rfl Try.call110 ?_ ?_
      . simp -implicitDefEqProofs only [aR', go_sem]
      simp -implicitDefEqProofs only [eR', go_sem]
      have hp := q0f3 g hg hgb n.toNat (by omega)
      rw [show ((n.toNat : Nat) : Int) = n by omega] at hp
      simp only [intsO] at hp
      refine q006.res hp [] rfl Try.call116 ?_ (.inl rfl) ?_
      . simp -implicitDefEqProofs only [aR', go_sem]
      simp -implicitDefEqProofs only [cR', go_sem]
      rw [q027 (q15d.2 ⟨hgb, hn, by omega⟩)]
      have hne := q14e g n.toNat
      have hlen := q14d g (n.toNat + 1)
      have hm := (q0kb hne).2
      have hq := q0ru (curL g (n.toNat + 1)) hne (by omega)
      simp only [ints] at hq
      refine q006.p hq [15] rfl Try.call105 ?_ ?_
      . simp -implicitDefEqProofs only [aR', go_sem]
      simp -implicitDefEqProofs only [eR', go_sem]
      have hq := q0rr (curL g (n.toNat + 1)) (by omega) _ hm
      simp only [ints] at hq
      refine q006.p hq [15] rfl Try.call117 ?_ ?_
      . simp -implicitDefEqProofs only [aR', go_sem]
      simp -implicitDefEqProofs only [eR', go_sem, tr2]
      rfl
    . rw [decide_eq_false hn] at hq
      refine q006.p hq [] rfl Try.call110 ?_ ?_
      . simp -implicitDefEqProofs only [aR', go_sem]
      simp -implicitDefEqProofs only [eR', go_sem]
      have hc := q15c hgb (fun h => hn h.1 : ¬ ((0 <= n /\ n <= 30) /\ (0 <= (0 : Int) /\ (0 : Int) <= 1)))
      rw [q026 (by rw [hc]; decide), hc]; rfl
  . rw [hgb] at hq
    refine q006.p hq [] rfl Try.call115 ?_ ?_
    . simp -implicitDefEqProofs only [aR', go_sem]
    simp -implicitDefEqProofs only [eR', go_sem]
    have hc := q15b (pl := 0) (n := n) hgb
    rw [q026 (by rw [hc]; decide), hc]; rfl
theorem q0s1 (g : Gm) (n : Int) (hg : q0cf g) : Pure Try.prog 44 [q0ck g, .i n] (tr2 (bitR g n)) := by
  refine q0bh (by simp) ?_
  simp -implicitDefEqProofs only [eR', go_sem, q04j, q0ck, nodes]
  refine q006.p (q0ss g 0 n hg) [] rfl Try.call107 ?_ ?_
  . simp -implicitDefEqProofs only [aR', go_sem]
  simp -implicitDefEqProofs only [eR', go_sem]
  by_cases hc : q15a g 0 n = 0
  . obtain ⟨hgb, hn, hpl⟩ := q15d.1 hc
    rw [hc]
    refine ⟨fun h => by simp at h, fun _ => ?_⟩
    obtain ⟨N, rfl⟩ : ∃ N : Nat, n = N := ⟨n.toNat, by omega⟩
    have hp := q0sv g hg hgb N (by omega)
    simp only [intsO] at hp
    refine q006.res hp [] rfl Try.call114 ?_ (.inl rfl) ?_
    . simp -implicitDefEqProofs only [aR', go_sem]
    simp -implicitDefEqProofs only [cR', go_sem]
    rw [q027 hc, Int.toNat_natCast]
    have h01 : argL (curL g 1) = 0 := by have := (q143 (q14e g 0)).1; rw [q14d] at this; show argL (curL g (0 + 1)) = 0; omega
    refine SemC.loopR (σ := Nat) (fun k => St.of [(1, .t (.i N)), (7, .own 118), (8, .t (.i (argL (curL g k) : Nat))), (9, .t (.i k))] [(118, intsO (curL g (N + 1)))]) (fun k => 1 <= k /\ k <= N + 1) (fun k => N + 1 - k) 1 (Weak.o _ _ [some 18] ?_ ?_) (by omega) fun k hk R hn1 hr he => ?_
    . simp -implicitDefEqProofs only [wR', Nat.reduceBEq, Nat.reduceEqDiff, ↓reduceIte, h01, Int.natCast_zero, Int.cast_ofNat_Int]
    . exact ⟨⟨_, rfl, .refl _⟩, rfl, trivial⟩
    obtain ⟨j, rfl⟩ : ∃ j, k = j + 1 := ⟨k - 1, by omega⟩
    obtain ⟨a1, a2, a3, a4⟩ := q143 (q14e g j)
    have hsn := q142 (q14e g j) (curI g (j + 1))
    rw [← q14f] at hsn
    have hlen := q14d g (j + 1)
    rw [hlen] at a1 hsn
    have hlN := q14d g (N + 1)
    rcases Nat.lt_or_ge (j + 1) (N + 1) with h9 | h9
    . have hx : (curL g (N + 1))[j + 1]? = some (curI g (j + 1)) := q14c h9
      have hy : (curL g (N + 1))[argL (curL g (j + 1))]? = some (minL (curL g (j + 1))) := by
        rw [q14c (by omega)]
        have := q14c (g := g) (n := j + 1) a1
        rw [this] at a2; exact a2
      simp -implicitDefEqProofs only [eR', go_sem, intsO, hlN, hx, hy, decide_eq_true (show ((j + 1 : Nat) : Int) <= (N : Int) by omega)]
      repeat (first | refine ⟨by omega, ?_⟩ | refine ⟨by rw [q0l0]; omega, ?_⟩)
      refine ⟨fun h => ?_, fun h => ?_⟩
      . rw [if_pos (by simpa using h)] at hsn
        refine hn1 _ (j + 1 + 1) (Weak.o _ _ [some 118] ?_ ?_) (by omega) (by omega)
        . simp -implicitDefEqProofs only [wR', Nat.reduceBEq, Nat.reduceEqDiff, ↓reduceIte, q0lb h9 (by omega), hsn]
        . exact ⟨⟨_, rfl, .refl _⟩, rfl, trivial⟩
      . rw [if_neg (by simpa using h)] at hsn
        refine hn1 _ (j + 1 + 1) (Weak.o _ _ [some 118] ?_ ?_) (by omega) (by omega)
        . simp -implicitDefEqProofs only [wR', Nat.reduceBEq, Nat.reduceEqDiff, ↓reduceIte, q0lb h9 (by omega), hsn]
        . exact ⟨⟨_, rfl, .refl _⟩, rfl, trivial⟩
    . have hjN : j = N := by omega
      subst hjN
      simp -implicitDefEqProofs only [eR', go_sem, intsO, decide_eq_false (show ¬ ((j + 1 : Nat) : Int) <= (j : Int) by omega)]
      refine he _ _ ?_
      simp -implicitDefEqProofs only [eR', go_sem, tr2]
  . rw [q026 hc]
    refine ⟨fun _ => rfl, fun h => absurd (by simpa using h) hc⟩
end

def q0yt : CC :=
 (.seq (.reg [.o (.alloc 2 [.v (.slice none 0 0), .v (.slice none 0 0), .v (.slice none 0 0)]),.o (.move 3 (ci 0))])
 ((.seq (.reg [mv 5 0,.o (.call (some 6) (cf 190) [(sl 5)]),.o (.alloc 4 [.v (.slice none 0 0), .v (.slice none 0 0), .v (.slice none 0 0)]),.o (.store 3 (sl 4) (sl 6))])
 ((.seq (.weak (.draw [11] [(kE, ln 7 3 4),(kE, mv 8 0),kr (mv 9 0),(kH, .o (.call (some 10) (cf 126) [(sl 9), (ci 6)])),(kN, .o (.bslice 11 1 10 [(0, (ci 0)), (1, (ci 1)), (2, (ci 2)), (3, (ci 3)), (4, (ci 4)), (5, (ci 2)), (6, (ci 3)), (7, (sl 10)), (8, (ci 31)), (9, (ci (-1)))])),(kH, .o (.call (some 12) (cf 147) [(sl 8), (sl 11)])),(kH, .o (.store 3 (sl 2) (sl 7))),kr (mv 3 12)]))
 (.ret))))))
theorem q0zy {rin args Q} (ha : args.length <= 13) (h : fW 13 q0yt [.cell 2 35, .tmp 3] rin args Q) : Fun Try.prog 150 rin args Q :=
 Fun.of (H := ⟨[], [2]⟩) Try.func150 rfl rfl rfl (by kernel_rfl) ha (by decide) h

theorem q10g (cs : List Int) : Pure Try.prog 51 [bytes cs] (.b (decide ((cs.length : Int) > 4096))) := by
  refine q0zf (by simp) ?_
  simp -implicitDefEqProofs only [eR', go_sem, q0ya, bytes]
theorem q10h (a b : List Int) (ha : a.length <= 1000000000000) (hb : b.length <= 1000000000000) : Pure Try.prog 94 [ints a, ints b] (.b (decide (a = b))) := by
  refine q0zg (by simp) ?_
  simp -implicitDefEqProofs only [q0yb, ints, go_sem]
  refine ⟨fun h => ?_, fun h => ?_⟩
  . have : a ≠ b := by rintro rfl; simp at h
    simp [this]
  . have hab : a.length = b.length := by simp at h; omega
    refine SemC.loopR (σ := Nat) (fun i => St.of [(0, .t (ints a)), (1, .t (ints b)), (5, .t (.i i))] []) (fun i => i <= a.length /\ ∀ j, j < i -> a[j]? = b[j]?) (fun i => a.length - i) 0 (Weak.o _ [] [] ?_ trivial) ⟨by simp, fun j hj => by omega⟩ fun i hI R hn hr he => ?_
    . simp -implicitDefEqProofs only [ints, wkR, Nat.reduceEqDiff, ↓reduceIte]
    . simp -implicitDefEqProofs only [ints, go_sem, q0ve]
      refine ⟨fun h => ⟨by omega, by omega, by omega, fun c x hx hc => ⟨by omega, by omega, by omega, fun c' y hy hc' => ?_⟩⟩, fun h => he _ _ ?_⟩
      . subst hc hc'
        simp -implicitDefEqProofs only [go_sem]
        refine ⟨fun h1 => hr _ ?_, fun h1 => hn _ (i + 1) (Weak.o _ [] [] ?_ trivial) ⟨by omega, fun j hj => ?_⟩ (by omega)⟩
        . simp -implicitDefEqProofs only [go_sem]
          have : a ≠ b := by rintro rfl; rw [hx] at hy; cases hy; simp at h1
          simp [this]
        . simp -implicitDefEqProofs only [ints, wkR, Nat.reduceEqDiff, ↓reduceIte, q0lb (by omega : i < a.length) ha]
        . rcases Nat.lt_or_ge j i with h | h
          . exact hI.2 j h
          . have : j = i := by omega
            subst this
            rw [hx, hy]; simpa using h1
      . simp -implicitDefEqProofs only [go_sem]
        have : a = b := by
          refine List.ext_getElem? fun j => ?_
          rcases Nat.lt_or_ge j i with h | h
          . exact hI.2 j h
          . rw [List.getElem?_eq_none (by omega), List.getElem?_eq_none (by omega)]
        simp [this]
section
attribute [-go_sem] q0i5 q0id fldC lenC idxC q0ip q0lp
end
section
attribute [-go_sem] q0i5 q0id fldC lenC idxC q0ip q0lp
def drNT (x : Gm × Int) : T := .tup [.agg [.sh 5 (chunk q0lu x.1.nd), .sh 1 (x.1.w.map ints), .sh 1 (x.1.v.map ints)], .i x.2]
theorem q12c (cs : List Int) (hc : q161 cs) (hl : cs.length <= 100000000000) (a : Nat × Int) (ha : q0qx a) : Fun Try.prog 150 [.box [bytes cs, .i a.1, .i a.2]] [.own 1000000000] fun o r => ∃ x : (Gm × Int) × (Nat × Int), o = [.box [bytes cs, .i x.2.1, .i x.2.2]] /\ r = drNT x.1 /\ (q11q x.1.1 /\ q0qx x.2) := by
  refine q0zy (by simp) ?_
  simp -implicitDefEqProofs only [eR', go_sem, q0yt]
  have hp := q128 cs hc hl a ha
  simp only [q0z3] at hp
  refine q006.exi hp [1000000000] [] rfl Try.call190 (by simp) ?_ (by simp) ?_ (.inl rfl) (fun x hx => ?_)
  . simp -implicitDefEqProofs only [sR', Nat.reduceEqDiff, ↓reduceIte]
  . simp -implicitDefEqProofs only [aR', go_sem]
  obtain ⟨⟨g, bb⟩, d⟩ := x
  obtain ⟨hx1, hx2⟩ := hx
  simp only [] at hx1 hx2 ⊢
  apply q12i
  rotate_left
  . intro tail
    cases bb
    . simp only [Bool.false_eq_true, if_false, rows, nodes]
      simp -implicitDefEqProofs only [cR', go_sem, opR, Nat.reduceBEq]
      refine ⟨St.of [(0, .own 1000000000), (2, .own 2), (4, .t (.pin [nodes g.nd, rows g.w, rows g.v] 0))] [(1000000000, .box [bytes cs, .i d.1, .i d.2]), (2, .box [.v (.slice none 0 0), .v (.slice none 0 0), .v (.slice none 0 0)])], Weak.trans (Weak.share 4 rfl) (Weak.o _ _ [some 1000000000, some 2] ?_ ?_), tail⟩
      . simp -implicitDefEqProofs only [wR', Nat.reduceBEq, Nat.reduceEqDiff, ↓reduceIte, q0rg, T.toSh, T.toShL, nodes, q12h]
      . exact ⟨⟨_, rfl, .refl _⟩, rfl, ⟨_, rfl, .refl _⟩, rfl, trivial⟩
    . simp only [if_true, rows, nodes]
      simp -implicitDefEqProofs only [cR', go_sem, opR, Nat.reduceBEq]
      refine ⟨St.of [(0, .own 1000000000), (2, .own 2), (4, .t (.pin [nodes g.nd, rows g.w, rows g.v] 0))] [(1000000000, .box [bytes cs, .i d.1, .i d.2]), (2, .box [.v (.slice none 0 0), .v (.slice none 0 0), .v (.slice none 0 0)])], Weak.trans (Weak.share 4 rfl) (Weak.o _ _ [some 1000000000, some 2] ?_ ?_), tail⟩
      . simp -implicitDefEqProofs only [wR', Nat.reduceBEq, Nat.reduceEqDiff, ↓reduceIte, q0rg, T.toSh, T.toShL, nodes, q12h]
      . exact ⟨⟨_, rfl, .refl _⟩, rfl, ⟨_, rfl, .refl _⟩, rfl, trivial⟩
  . simp -implicitDefEqProofs only [eR', go_sem, nodes]
    refine q002.ref (q10p cs hc hl d hx2 6 (by omega)) [1000000000] [] rfl Try.call126 (by simp) ?_ (by simp) (fun e R' hR => ?_) (.inl rfl) ?_
    . simp -implicitDefEqProofs only [sR', Nat.reduceEqDiff, ↓reduceIte]
    . simp -implicitDefEqProofs only [aR', go_sem]
    simp -implicitDefEqProofs only [cR', go_sem]
    have hs1 := q10o (cs := cs) hl hx2 6
    generalize q10m cs d 6 = z at hs1 ⊢
    obtain ⟨k, f⟩ := z
    simp only [] at hs1 ⊢
    have hp := q117 cs hc hl f hs1 [0, 1, 2, 3, 4, 2, 3, k, 31, -1] (by simp) (by simp)
    have hs2 := q116 (cs := cs) hl hs1 [0, 1, 2, 3, 4, 2, 3, k, 31, -1]
    generalize q115 cs f [0, 1, 2, 3, 4, 2, 3, k, 31, -1] = z at hs2 hp ⊢
    obtain ⟨y, f2⟩ := z
    simp only [intsO, List.map_cons, List.map_nil] at hp hs2
    refine q002.ref hp [1000000000, 11] [] rfl Try.call147 (by simp) ?_ (by simp) (fun e R' hR => ?_) (.inl rfl) ?_
    . simp -implicitDefEqProofs only [sR', Nat.reduceEqDiff, ↓reduceIte]
    . simp -implicitDefEqProofs only [aR', go_sem]
    simp -implicitDefEqProofs only [cR', go_sem]
    exact ⟨((g, y), f2), rfl, rfl, hx1, hs2⟩
theorem q11v (cs : List Int) (hc : q161 cs) (hl : cs.length <= 100000000000) : Fun Try.prog 93 [] [.t (bytes cs)] fun o r => ∃ x : Gm × Int, o = [] /\ r = drNT x /\ q11q x.1 := by
  refine q0zi (by simp) ?_
  simp -implicitDefEqProofs only [eR', go_sem, q0yd]
  refine q006.res (q11z cs hc (by omega)) [] rfl Try.call119 ?_ (.inl rfl) ?_
  . simp -implicitDefEqProofs only [aR', go_sem]
  simp -implicitDefEqProofs only [cR', go_sem, srcT]
  have hs0 := q11l (cs.take 64)
  generalize q0za (cs.take 64) = sd at hs0 ⊢
  have hp := q12c cs hc hl (0, sd) hs0
  simp only [drNT] at hp
  refine q006.exi hp [5] [] rfl Try.call150 (by simp) ?_ (by simp) ?_ (.inl rfl) (fun x hx => ?_)
  . simp -implicitDefEqProofs only [sR', Nat.reduceEqDiff, ↓reduceIte]
  . simp -implicitDefEqProofs only [aR', go_sem]
  simp -implicitDefEqProofs only [cR', go_sem, opR, Nat.reduceBEq]
  exact ⟨x.1, rfl, hx.1⟩
def drQT (x : (Gm × Bool) × Int) : T := .tup [if x.1.2 then .agg [q0m0 x.1.1.nd, q0qa x.1.1.w, q0qa x.1.1.v] else .agg [.sh 5 (chunk q0lu x.1.1.nd), .sh 1 (x.1.1.w.map ints), .sh 1 (x.1.1.v.map ints)], .i x.2]
theorem q11w (cs : List Int) (hc : q161 cs) (hl : cs.length <= 100000000000) : Fun Try.prog 92 [] [.t (bytes cs)] fun o r => ∃ x : (Gm × Bool) × Int, o = [] /\ r = drQT x /\ q11q x.1.1 := by
  refine q0zj (by simp) ?_
  simp -implicitDefEqProofs only [eR', go_sem, q0ye]
  refine q006.res (q11z cs hc (by omega)) [] rfl Try.call119 ?_ (.inl rfl) ?_
  . simp -implicitDefEqProofs only [aR', go_sem]
  simp -implicitDefEqProofs only [cR', go_sem, srcT]
  have hs0 := q11l (cs.take 64)
  generalize q0za (cs.take 64) = sd at hs0 ⊢
  refine q006.ref (q10p cs hc hl (0, sd) hs0 40 (by omega)) [6] [] rfl Try.call126 (by simp) ?_ (by simp) ?_ (.inl rfl) ?_
  . simp -implicitDefEqProofs only [sR', Nat.reduceEqDiff, ↓reduceIte]
  . simp -implicitDefEqProofs only [aR', go_sem]
  simp -implicitDefEqProofs only [cR', go_sem]
  have hs1 := q10o (cs := cs) hl hs0 40
  generalize q10m cs (0, sd) 40 = z at hs1 ⊢
  obtain ⟨k, f⟩ := z
  simp only [] at hs1 ⊢
  refine ⟨fun hk => ?_, fun hk => ?_⟩
  . have hp := q11x
    simp only [q0cg, q0m0, q0qa] at hp
    refine q006.exi hp [] [] rfl Try.call127 (by simp) ?_ (by simp) ?_ (.inl rfl) (fun g hg => ?_)
    . simp -implicitDefEqProofs only [sR', Nat.reduceEqDiff, ↓reduceIte]
    . simp -implicitDefEqProofs only [aR', go_sem]
    simp -implicitDefEqProofs only [cR', go_sem, opR, Nat.reduceBEq]
    exact ⟨((g, true), 30), rfl, q0z2 hg⟩
  . have hp := q12c cs hc hl f hs1
    simp only [drNT] at hp
    refine q006.exi hp [6] [] rfl Try.call150 (by simp) ?_ (by simp) ?_ (.inl rfl) (fun x hx => ?_)
    . simp -implicitDefEqProofs only [sR', Nat.reduceEqDiff, ↓reduceIte]
    . simp -implicitDefEqProofs only [aR', go_sem]
    simp -implicitDefEqProofs only [cR', go_sem, opR, Nat.reduceBEq]
    exact ⟨((x.1.1, false), x.1.2), rfl, hx.1⟩
end
section
attribute [-go_sem] q0i5 q0id fldC lenC idxC q0ip q0lp
theorem q103 {α : Type} {p : α -> Prop} (k0 : α) (h : ∀ k, k0 = k -> p k) : p k0 := h k0 rfl
end

def q0y9 : CC :=
 (.seq (.reg [.o (.move 2 (cb false))])
 ((.seq (.seq (.reg [mv 18 0,.o (.call (some 19) (cf 51) [(sl 18)])])
 ((.cond (sl 19) (.seq (.reg [.o (.move 2 (cb true))])
 (.ret))
 .skip)))
 ((.seq (.reg [mv 21 0,.o (.call (some 22) (cf 92) [(sl 21)]),mv 20 22,.o (.extract 23 (sl 20) 0),.o (.extract 24 (sl 20) 1),.o (.alloc 3 [.v (.slice none 0 0), .v (.slice none 0 0), .v (.slice none 0 0)]),.o (.store 3 (sl 3) (sl 23)),mv 4 24])
 ((.seq (.weak (.reg [ln 26 3 3,mv 27 4,.o (.call (some 28) (cf 47) [(sl 26), (sl 27)]),mv 25 28,.o (.extract 29 (sl 25) 0),.o (.extract 30 (sl 25) 1),mv 5 29,mv 6 30]))
 ((.seq (.reg [ln 32 3 3,mv 33 4,.o (.call (some 34) (cf 46) [(sl 32), (sl 33)]),mv 31 34,.o (.extract 35 (sl 31) 0),.o (.extract 36 (sl 31) 1),mv 7 35,mv 8 36])
 ((.seq (.reg [mv 38 0,.o (.call (some 39) (cf 93) [(sl 38)]),mv 37 39,.o (.extract 40 (sl 37) 0),.o (.extract 41 (sl 37) 1),.o (.alloc 9 [.v (.slice none 0 0), .v (.slice none 0 0), .v (.slice none 0 0)]),.o (.store 3 (sl 9) (sl 40)),mv 10 41])
 ((.seq (.reg [ln 43 3 9,mv 44 10,.o (.call (some 45) (cf 45) [(sl 43), (sl 44)]),mv 42 45,.o (.extract 46 (sl 42) 0),.o (.extract 47 (sl 42) 1),mv 11 46,mv 12 47])
 ((.seq (.reg [ln 49 3 9,mv 50 10,.o (.call (some 51) (cf 44) [(sl 49), (sl 50)]),mv 48 51,.o (.extract 52 (sl 48) 0),.o (.extract 53 (sl 48) 1),mv 13 52,mv 14 53])
 ((.seq (.seq (.reg [mv 54 6,mv 55 8,.o (.bin 56 .neq (sl 54) (sl 55)),mv 57 56,.g 57 false (some 58) (.move 58 (sl 5)),.g 57 false (some 59) (.move 59 (sl 7)),.g 57 false (some 60) (.call (some 60) (cf 94) [(sl 58), (sl 59)]),.g 57 false (some 61) (.un 61 .not (sl 60)),.o (.pick 62 (sl 57) (cb true) (sl 61)),mv 63 62,.g 63 false (some 64) (.move 64 (sl 12)),.g 63 false (some 65) (.move 65 (sl 14)),.g 63 false (some 66) (.bin 66 .neq (sl 64) (sl 65)),.o (.pick 67 (sl 63) (cb true) (sl 66)),mv 68 67,.g 68 false (some 69) (.move 69 (sl 11)),.g 68 false (some 70) (.move 70 (sl 13)),.g 68 false (some 71) (.bin 71 .neq (sl 69) (sl 70)),.o (.pick 72 (sl 68) (cb true) (sl 71))])
 ((.cond (sl 72) (.seq (.reg [.o (.move 2 (cb false))])
 (.ret))
 .skip)))
 ((.seq (.seq (.reg [mv 73 6,.o (.bin 74 .neq (sl 73) (ci 0))])
 ((.cond (sl 74) (.seq (.reg [.o (.move 2 (cb true))])
 (.ret))
 .skip)))
 ((.seq (.reg [ln 76 3 3,mv 77 4,.o (.call (some 78) (cf 45) [(sl 76), (sl 77)]),mv 75 78,.o (.extract 79 (sl 75) 0),.o (.extract 80 (sl 75) 1),mv 15 79,mv 16 80])
 ((.seq (.seq (.reg [mv 81 16,.o (.bin 82 .neq (sl 81) (ci 0)),mv 83 82,.g 83 false (some 84) (.move 84 (sl 5)),.g 83 false (some 85) (.lenS 85 (sl 84)),.g 83 false (some 86) (.move 86 (sl 4)),.g 83 false (some 87) (.bin 87 .add (sl 86) (ci 1)),.g 83 false (some 88) (.bin 88 .neq (sl 85) (sl 87)),.o (.pick 89 (sl 83) (cb true) (sl 88)),mv 90 89,.g 90 false (some 91) (.move 91 (sl 15)),.g 90 false (some 92) (.bin 92 .lss (sl 91) (ci 0)),.o (.pick 93 (sl 90) (cb true) (sl 92)),mv 94 93,.g 94 false (some 95) (.move 95 (sl 15)),.g 94 false (some 96) (.move 96 (sl 4)),.g 94 false (some 97) (.bin 97 .gtr (sl 95) (sl 96)),.o (.pick 98 (sl 94) (cb true) (sl 97))])
 ((.cond (sl 98) (.seq (.reg [.o (.move 2 (cb false))])
 (.ret))
 .skip)))
 ((.seq (.seq (.reg [.o (.move 17 (ci 0))])
 ((.block 0 (.loop (.seq (.seq (.reg [mv 99 17,mv 100 5,.o (.lenS 101 (sl 100)),.o (.bin 102 .lss (sl 99) (sl 101))])
 ((.cond (sl 102) .skip
 (.exit 0))))
 ((.seq (.block 1 (.seq (.draw [] [kr (mv 105 5),kr (mv 106 17),kr (ix 107 105 106),kr (l1 108 107),kr (.o (.bin 109 .lss (sl 108) (ci 0))),kr (mv 110 109),(kR, .g 110 false (some 111) (.move 111 (sl 5))),(kR, .g 110 false (some 112) (.move 112 (sl 17))),(kR, .g 110 false (some 113) (.idx 113 1 (sl 111) (sl 112))),(kR, .g 110 false (some 114) (.load1 114 (sl 113))),(kR, .g 110 false (some 115) (.move 115 (sl 5))),(kR, .g 110 false (some 116) (.move 116 (sl 15))),(kR, .g 110 false (some 117) (.idx 117 1 (sl 115) (sl 116))),(kR, .g 110 false (some 118) (.load1 118 (sl 117))),(kR, .g 110 false (some 119) (.bin 119 .lss (sl 114) (sl 118))),kr (.o (.pick 120 (sl 110) (cb true) (sl 119))),kr (mv 121 120),(kR, .g 121 false (some 122) (.move 122 (sl 17))),(kR, .g 121 false (some 123) (.move 123 (sl 15))),(kR, .g 121 false (some 124) (.bin 124 .lss (sl 122) (sl 123))),(kR, .g 121 false (some 125) (.move 125 (sl 124))),(kR, .g 125 true (some 126) (.move 126 (sl 5))),(kR, .g 125 true (some 127) (.move 127 (sl 17))),(kR, .g 125 true (some 128) (.idx 128 1 (sl 126) (sl 127))),(kR, .g 125 true (some 129) (.load1 129 (sl 128))),(kR, .g 125 true (some 130) (.move 130 (sl 5))),(kR, .g 125 true (some 131) (.move 131 (sl 15))),(kR, .g 125 true (some 132) (.idx 132 1 (sl 130) (sl 131))),(kR, .g 125 true (some 133) (.load1 133 (sl 132))),(kR, .g 125 true (some 134) (.bin 134 .eql (sl 129) (sl 133))),(kR, .g 121 false (some 135) (.pick 135 (sl 125) (sl 134) (cb false))),kr (.o (.pick 136 (sl 121) (cb true) (sl 135)))])
 ((.cond (sl 136) (.seq (.reg [.o (.move 2 (cb false))])
 (.ret))
 .skip))))
 ((.reg [mv 103 17,.o (.bin 104 .add (sl 103) (ci 1)),mv 17 104])))))))))
 ((.seq (.reg [.o (.move 2 (cb true))])
 (.ret))))))))))))))))))))))))))))
theorem q0ze {rin args Q} (ha : args.length <= 137) (h : fW 137 q0y9 [.tmp 2] rin args Q) : Fun Try.prog 19 rin args Q :=
 Fun.of (H := ⟨[], [4]⟩) Try.func19 rfl rfl rfl (by kernel_rfl) ha (by decide) h

section
attribute [-go_sem] q0i5 q0id fldC lenC idxC q0ip q0lp
theorem q10f (cs : List Int) (hc : q161 cs) : Pure Try.prog 19 [bytes cs] (.b true) := by
  refine q0ze (by simp) ?_
  simp -implicitDefEqProofs only [eR', go_sem, q0y9]
  refine q006.p (q10g cs) [] rfl Try.call51 ?_ ?_
  . simp -implicitDefEqProofs only [aR', go_sem]
  simp -implicitDefEqProofs only [eR', go_sem]
  refine ⟨fun _ => trivial, fun hbig => ?_⟩
  have hl : cs.length <= 4096 := by have : (cs.length : Int) <= 4096 := by simpa using hbig
                                    omega
  have hp := q11w cs hc (by omega)
  simp only [drQT] at hp
  refine q006.exi hp [] [] rfl Try.call92 (by simp) ?_ (by simp) ?_ (.inl rfl) (fun x hx => ?_)
  . simp -implicitDefEqProofs only [sR', Nat.reduceEqDiff, ↓reduceIte]
  . simp -implicitDefEqProofs only [aR', go_sem]
  obtain ⟨⟨g, bb⟩, n⟩ := x
  (try simp only [] at hx)
  (try simp only [])
  apply q12i
  rotate_left
  . intro tail
    cases bb
    . simp only [Bool.false_eq_true, if_false, rows, nodes]
      refine q103 (p := fun k => q00p _ _ _ _ _ (opsW _ _ _ k)) _ (fun kc hkc => ?_)
      simp -implicitDefEqProofs only [cR', go_sem, opR, Nat.reduceBEq]
      rw [← hkc]
      refine ⟨St.of [(0, .t (bytes cs)), (3, .t (.pin [.sh 5 (chunk q0lu g.nd), rows g.w, rows g.v] 0)), (4, .t (.i n))] [], Weak.trans (Weak.share 3 rfl) (Weak.o _ _ [] ?_ ?_), tail⟩
      . simp -implicitDefEqProofs only [wR', Nat.reduceBEq, Nat.reduceEqDiff, ↓reduceIte, q0rg, T.toSh, T.toShL, nodes, q12h]
      . exact trivial
    . simp only [if_true, rows, nodes, q0m0, q0qa]
      refine q103 (p := fun k => q00p _ _ _ _ _ (opsW _ _ _ k)) _ (fun kc hkc => ?_)
      simp -implicitDefEqProofs only [cR', go_sem, opR, Nat.reduceBEq]
      rw [← hkc]
      refine ⟨St.of [(0, .t (bytes cs)), (3, .t (.pin [.sh 5 (chunk q0lu g.nd), rows g.w, rows g.v] 0)), (4, .t (.i n))] [], Weak.trans (Weak.share 3 rfl) (Weak.o _ _ [] ?_ ?_), tail⟩
      . simp -implicitDefEqProofs only [wR', Nat.reduceBEq, Nat.reduceEqDiff, ↓reduceIte, q0rg, T.toSh, T.toShL, nodes, q0vh, q0vg]
      . exact trivial
  simp -implicitDefEqProofs only [eR', go_sem, opR, Nat.reduceBEq]
  have hg := q11r hx
  have hlen := q162 g n
  have hq := q106 g n hg
  simp only [q0ck, nodes, rows, crO] at hq
  refine q006.res hq [] rfl Try.call47 ?_ (.inl rfl) ?_
  . simp -implicitDefEqProofs only [aR', go_sem]
  refine q103 (p := fun k => q00p _ _ _ _ _ (opsW _ _ _ k)) _ (fun kc hkc => ?_)
  simp -implicitDefEqProofs only [cR', go_sem, opR, Nat.reduceBEq]
  rw [← hkc]
  clear hkc
  simp -implicitDefEqProofs only [eR', go_sem, opR, Nat.reduceBEq]
  have hq := q11y g n hg
  simp only [q0ck, nodes, rows, crO] at hq
  refine q006.res hq [] rfl Try.call46 ?_ (.inl rfl) ?_
  . simp -implicitDefEqProofs only [aR', go_sem]
  refine q103 (p := fun k => q00p _ _ _ _ _ (opsW _ _ _ k)) _ (fun kc hkc => ?_)
  simp -implicitDefEqProofs only [cR', go_sem, opR, Nat.reduceBEq]
  rw [← hkc]
  clear hkc
  simp -implicitDefEqProofs only [eR', go_sem, opR, Nat.reduceBEq]
  refine q006.weak (Weak.trans (Weak.share 28 rfl) (Weak.trans (Weak.share 34 rfl) (Weak.o [(0, .t (bytes cs)), (3, .t (.pin [.sh 5 (chunk q0lu g.nd), rows g.w, rows g.v] 0)), (4, .t (.i n)), (5, .t (ints (crvR g n).1)), (6, .t (.i (crvR g n).2)), (7, .t (ints (crvR g n).1)), (8, .t (.i (crvR g n).2)), (38, .t (bytes cs))] [] [] ?_ ?_))) ?_
  . simp -implicitDefEqProofs only [wR', Nat.reduceBEq, Nat.reduceEqDiff, ↓reduceIte, q0rg, T.toSh, T.toShL, nodes, q0vg, intsO, q0vf]
  . exact trivial
  have hp := q11v cs hc (by omega)
  simp only [drNT] at hp
  refine q006.exi hp [] [] rfl Try.call93 (by simp) ?_ (by simp) ?_ (.inl rfl) (fun x hx2 => ?_)
  . simp -implicitDefEqProofs only [sR', Nat.reduceEqDiff, ↓reduceIte]
  . simp -implicitDefEqProofs only [aR', go_sem]
  refine q103 (p := fun k => q00p _ _ _ _ _ (opsW _ _ _ k)) _ (fun kc hkc => ?_)
  simp -implicitDefEqProofs only [cR', go_sem, opR, Nat.reduceBEq, nodes, rows]
  rw [← hkc]
  clear hkc
  simp -implicitDefEqProofs only [eR', go_sem, opR, Nat.reduceBEq, nodes]
  obtain ⟨h, m⟩ := x
  (try simp only [] at hx2)
  (try simp only [])
  have hq := q0ed h m (q11r hx2)
  simp only [q0ck, nodes, rows, tr2] at hq
  refine q006.p hq [] rfl Try.call45 ?_ ?_
  . simp -implicitDefEqProofs only [aR', go_sem]
  simp -implicitDefEqProofs only [eR', go_sem]
  have hq := q0s1 h m (q11r hx2)
  simp only [q0ck, nodes, rows, tr2] at hq
  refine q006.p hq [] rfl Try.call44 ?_ ?_
  . simp -implicitDefEqProofs only [aR', go_sem]
  simp -implicitDefEqProofs only [eR', go_sem, bne_self_eq_false]
  refine q006.p (q10h (crvR g n).1 (crvR g n).1 (by omega) (by omega)) [] rfl Try.call94 ?_ ?_
  . simp -implicitDefEqProofs only [aR', go_sem]
  simp -implicitDefEqProofs only [eR', go_sem, bne_self_eq_false, not_true_eq_false, decide_true, Bool.not_true]
  by_cases hcd : q15a g 0 n = 0
  . obtain ⟨hgb, hn, hpl⟩ := q15d.1 hcd
    have e1 := q0z0 hcd
    have e2 := q027 hcd
    obtain ⟨N, rfl⟩ : ∃ N : Nat, n = N := ⟨n.toNat, by omega⟩
    rw [Int.toNat_natCast] at e1 e2
    obtain ⟨c1, c2⟩ := q165 hgb (show N <= 999 by omega)
    obtain ⟨a1, a2, a3, a4⟩ := q143 (q14e g N)
    have hcl := q14d g (N + 1)
    have hq := q0ed g N hg
    rw [e2] at hq
    rw [e1]
    simp only [q0ck, nodes, rows, tr2] at hq
    refine ⟨fun h => by simp at h, fun _ => ?_⟩
    refine q006.p hq [] rfl Try.call45 ?_ ?_
    . simp -implicitDefEqProofs only [aR', go_sem]
    simp -implicitDefEqProofs only [eR', go_sem, bne_self_eq_false, List.length_map]
    generalize curL g (N + 1) = L at c1 c2 a1 a2 a3 a4 hcl ⊢
    generalize argL L = a at c1 c2 a1 a2 a4 ⊢
    refine ⟨fun _ => ⟨fun _ => ⟨fun h => by exfalso; omega, fun _ => ?_⟩, fun h => by exfalso; omega⟩, fun h => ?_⟩
    rotate_left
    . exfalso
      rw [wrap64 (by omega) (by omega), hcl] at h
      simp at h
    refine SemC.loopR (σ := Nat) (fun k => St.of [(5, .t (.sh 1 (L.map T.i))), (15, .t (.i a)), (17, .t (.i k))] []) (fun k => k <= N + 1) (fun k => N + 1 - k) 0 (Weak.o _ _ [] ?_ ?_) (by omega) fun k hk R hn hr he => ?_
    . simp -implicitDefEqProofs only [wR', Nat.reduceBEq, Nat.reduceEqDiff, ↓reduceIte, Int.cast_ofNat_Int]
    . exact trivial
    have hlm : (L.map T.i).length = L.length := by simp
    rcases Nat.lt_or_ge k (N + 1) with h9 | h9
    . have hx : L[k]? = some L[k] := List.getElem?_eq_getElem (by omega)
      obtain ⟨d1, d2, d3⟩ := c2 k L[k] hx
      simp -implicitDefEqProofs only [eR', go_sem, hlm, hcl, decide_eq_true (show (k : Int) < ((N + 1 : Nat) : Int) by omega), List.getElem?_map, hx, a2, Option.map_some, Option.getD_some]
      refine ⟨by omega, by omega, by omega, fun _ => ⟨by omega, by omega, by omega, by omega, by omega, by omega, fun _ => ⟨fun hka => ⟨by omega, by omega, by omega, by omega, by omega, by omega, fun h => ?_, fun _ => hn _ (k + 1) (Weak.o _ _ [] ?_ ?_) (by omega) (by omega)⟩, fun _ => hn _ (k + 1) (Weak.o _ _ [] ?_ ?_) (by omega) (by omega)⟩, fun h => ?_⟩, fun h => ?_⟩
      . exact absurd (by simpa using h) (d3 (by omega))
      . simp -implicitDefEqProofs only [wR', Nat.reduceBEq, Nat.reduceEqDiff, ↓reduceIte, wrap64 (n := (k : Int) + 1) (by omega) (by omega), Int.natCast_add, Int.cast_ofNat_Int]
      . exact trivial
      . simp -implicitDefEqProofs only [wR', Nat.reduceBEq, Nat.reduceEqDiff, ↓reduceIte, wrap64 (n := (k : Int) + 1) (by omega) (by omega), Int.natCast_add, Int.cast_ofNat_Int]
      . exact trivial
      . exfalso; omega
      . exfalso; omega
    . simp -implicitDefEqProofs only [eR', go_sem, hlm, hcl, decide_eq_false (show ¬ (k : Int) < ((N + 1 : Nat) : Int) by omega)]
      refine he _ _ ?_
      simp -implicitDefEqProofs only [eR', go_sem]
  . refine ⟨fun _ => trivial, fun h => ?_⟩
    rw [q0yz hcd] at h
    exact absurd (by simpa using h) hcd
end
end Go.Ab

namespace Go.Proofs.Ytkmmkgpnlmdcfaa
open Go.ChangeShapes Go.WideShapes Go.ChangeAt Go.RowKit Go.Ab

namespace fnCurves
theorem said : ∀ xs, wtL [q168] xs -> Pure Try.prog 19 xs (.b true)
  | [x], h => by
    obtain ⟨cs, rfl, _, hc⟩ := q169 h.1
    exact q10f cs hc
  | [], h => h.elim
  | _ :: _ :: _, h => h.2.elim

set_option maxRecDepth 100000 in
theorem lifted (os : Os) (started : os.Started) (H : Type) (enc : TypeId × Value -> H) :
    ReturnsInHanded {} Try.checked os 19 .any (Rows.fnCurvesSpec.pre6 enc Try.prog Try.f19 Rows.fnCurvesRow.domain false) (Rows.fnCurvesSpec.post enc Try.prog Try.f19 false true false false) := by
  refine returnsInHanded_of_change (C := Try.checked) (by kernel_rfl) started (by kernel_rfl) Try.func19
    (ChangeSpec.witness6 (enc := enc) (C := Try.checked) false ⟨#[], #[.slice none 0 0], []⟩ 8 (by kernel_rfl) (by kernel_rfl) (by kernel_rfl) (by kernel_rfl)) ?_
  intro W base args ds gs before hval hW _ _
  refine q0hc (tys := [q168]) (by kernel_rfl) (by kernel_rfl) rfl (by kernel_rfl) rfl (fun ds h => ?_) said W base args ds gs before hval hW
  match ds, h with
  | [d0], _ => rfl

theorem andT {a b : Bool} (ha : a = true) (hb : b = true) : (a && b) = true := by rw [ha, hb]; rfl
theorem q0g8 : ((Rows.fnCurvesRow.wf (OpenSpec.ofChange Rows.fnCurvesSpec))) = true := by kernel_rfl
theorem q0g9 : (laidOutB Try.prog) = true := Try.laidOutT
theorem q0gk : (mapsRowed Try.prog) = true := Try.mapsRowedT
theorem q0gv : (Try.f19.params.all (Try.prog.readableRec ·)) = true := by kernel_rfl
theorem q0gy : (namedTie Try.prog Rows.fnCurvesRow.named Rows.fnCurvesSpec.vars) = true := by kernel_rfl
theorem q0gz : ((Rows.fnCurvesRow.stops == [])) = true := by kernel_rfl
theorem q0h0 : ((Try.prog.stops == [])) = true := by kernel_rfl
theorem q0h1 : ((Rows.fnCurvesRow.knobs == [])) = true := by kernel_rfl
theorem q0h2 : ((Try.prog.stopKnobs == [])) = true := by kernel_rfl
theorem q0h3 : ((Rows.fnCurvesRow.inPlace == Try.prog.inPlace 19)) = true := by kernel_rfl
theorem q0ga : ((Rows.fnCurvesRow.unfollowed == Try.prog.unfollowed 19)) = true := by kernel_rfl
theorem q0gb : ((Rows.fnCurvesRow.recurses == Try.prog.recurses 19)) = true := by kernel_rfl
theorem q0gc : ((Rows.fnCurvesRow.named == Try.prog.varsNamed 19)) = true := by kernel_rfl
theorem q0gd : ((Rows.fnCurvesRow.maps == (Try.f19.params.toList ++ Rows.fnCurvesSpec.plain.varTypes Try.prog).any (Try.prog.mapsRec ·))) = true := by kernel_rfl
theorem q0ge : ((Rows.fnCurvesRow.ifaces == (Try.f19.params.toList ++ Rows.fnCurvesSpec.plain.varTypes Try.prog).any (Try.prog.ifacesRec ·))) = true := by kernel_rfl
theorem q0gf : ((Rows.fnCurvesRow.mapsOut == Try.prog.mapsAmong Try.f19.resultTypes.toList)) = true := by kernel_rfl
theorem q0gg : ((Rows.fnCurvesRow.loops == (Try.f19.params.toList ++ Rows.fnCurvesSpec.plain.varTypes Try.prog).any (Try.prog.loopsFrom ·))) = true := by kernel_rfl
theorem q0gh : ((Rows.fnCurvesRow.wideKeys == (Try.f19.params.toList ++ Rows.fnCurvesSpec.plain.varTypes Try.prog ++ Try.f19.resultTypes.toList).any (Try.prog.wideKeysFrom ·))) = true := by kernel_rfl
theorem q0gi : (Rows.fnCurvesSpec.vars.all (Try.prog.varReadable ·)) = true := by kernel_rfl
theorem q0gj : (Try.f19.resultTypes.all (fun t => Try.prog.readableRec t && decide (t < Try.prog.types.size))) = true := by kernel_rfl
theorem q0gl : ((Rows.fnCurvesRow.ifacesOut == Try.f19.resultTypes.toList.any (Try.prog.ifacesRec ·))) = true := by kernel_rfl
theorem q0gm : ((Rows.fnCurvesRow.loopsOut == Try.f19.resultTypes.toList.any (Try.prog.loopsFrom ·))) = true := by kernel_rfl
theorem q0gn : ((Rows.fnCurvesRow.plainKeys == Try.prog.plainKeys)) = true := by kernel_rfl
theorem q0go : (Rows.fnCurvesRow.shortTexts.isNone) = true := by kernel_rfl
theorem q0gp : (Try.prog.stopsHeard) = true := Try.heardT
theorem q0gq : (Try.prog.mayEnter) = true := Try.mayEnterT
theorem q0gr : ((Rows.fnCurvesRow.lifted == Try.prog.liftsFinal)) = true := (by rw [Try.liftsF]; rfl)
theorem q0gs : ((Try.prog.make == some Rows.fnCurvesRow.make)) = true := (by rw [Try.makeC]; rfl)
theorem q0gt : ((Rows.fnCurvesRow.kinds == (if Rows.fnCurvesRow.domain.isEmpty then [] else Try.f19.params.toList.map fun t => match Try.prog.underlying t with | some (.int k) => some k | _ => none))) = true := by kernel_rfl
theorem q0gu : ((Rows.fnCurvesRow.pinned == Rows.fnCurvesRow.pinnedBy)) = true := by kernel_rfl
theorem q0gw : ((Rows.fnCurvesRow.veiled == (Try.f19.params.toList ++ Rows.fnCurvesSpec.plain.varTypes Try.prog ++ Try.f19.resultTypes.toList).any (Try.prog.veiledRec ·))) = true := by kernel_rfl
theorem q0gx : (Rows.fnCurvesRow.veiledFits Try.prog Try.f19.params.toList (Try.f19.params.toList ++ Rows.fnCurvesSpec.plain.varTypes Try.prog ++ Try.f19.resultTypes.toList)) = true := by kernel_rfl
set_option maxRecDepth 100000 in
theorem joined : joinedFacts Try.prog 19 Try.f19 Rows.fnCurvesSpec Rows.fnCurvesRow = true := by
  unfold joinedFacts
  exact andT (andT (andT (andT (andT (andT (andT (andT (andT (andT (andT (andT (andT (andT (andT (andT (andT (andT (andT (andT (andT (andT (andT (andT (andT (andT (andT (andT (andT (andT (andT (q0g8) q0g9) q0gk) q0gv) q0gy) q0gz) q0h0) q0h1) q0h2) q0h3) q0ga) q0gb) q0gc) q0gd) q0ge) q0gf) q0gg) q0gh) q0gi) q0gj) q0gl) q0gm) q0gn) q0go) q0gp) q0gq) q0gr) q0gs) q0gt) q0gu) q0gw) q0gx
theorem over : Rows.fnCurvesRow.holds Try.pinned (OpenSpec.ofChange Rows.fnCurvesSpec) :=
  OpenClaim.holds_of_wide 19 Try.f19 rfl rfl rfl rfl rfl rfl rfl ⟨rfl, rfl, rfl, rfl, rfl⟩ rfl rfl rfl rfl rfl (by kernel_rfl) Try.func19 joined
    (of_decide_eq_true (by kernel_rfl)) (by unfold Func.isWrapper; first | (rw [if_pos (by decide +kernel)]; kernel_rfl) | (rw [if_neg (by decide +kernel)]; exact ⟨rfl, rfl⟩))
    (fun os started H enc _ => lifted os started H enc)
end fnCurves

theorem fnCurves_holds : Rows.FnCurvesSaid := fnCurves.over
#print axioms fnCurves_holds
end Go.Proofs.Ytkmmkgpnlmdcfaa
