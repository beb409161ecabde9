/- Contracts: the best number and the first best response, the program's. -/
import Derived.Test.YtkmmkgpnlmdcfaaQ5
set_option linter.unusedSimpArgs false
set_option linter.unusedVariables false
set_option maxRecDepth 20000
namespace Go.Ab
open Go.Proofs

theorem q0e9 {l : List Nd} {pl : Int} {j : Nat} {y : Int} (h : (idxs l pl l.length)[j]? = some y) : ∃ i : Nat, y = i /\ i < l.length := by
  obtain ⟨i, h1, h2, _⟩ := q0ea (List.mem_of_getElem? h)
  exact ⟨i, h1, h2⟩
theorem q0k7 (m : List Nat) (R R' : Nat -> Root) (r : Nat) : q0k5 m R R' r = if m.any (fun d => decide (r = d) || decide (r / 1000 = d + 1)) then R r else R' r := rfl
def q0p2 (g : Gm) (ot : List (List Int)) (pl : Int) (a b : List Int) : T := .box [nodes g.nd, rows g.w, rows g.v, .i pl, .i 0, intsO a, intsO b, rows ot, .i 0, .v (.slice none 0 0)]
def q0p3 (g : Gm) (ot : List (List Int)) (pl : Int) (B : List (List Int)) : T := .box [nodes g.nd, rows g.w, rows g.v, .i pl, .any, ints (ownL g pl), ints (ownL g (1 - pl)), rows ot, .i pl, q0qa B]
section
attribute [-go_sem] q0i5 q0id fldC lenC idxC q0ip q0lp
theorem q0ei {g : Gm} {ot : List (List Int)} {pl : Int} (hg : q0fl g = true) (hpl : pl = 0 ∨ pl = 1) (hot : q0nw g ot (1 - pl)) : Fun Try.prog 122 [] [.t (q0ck g), .t (q0tu (1 - pl, ot))] fun o r => o = [] /\ r = runT g ot pl := by
  obtain ⟨p1, p2, p3, p4, p5⟩ := q0fn hg
  obtain ⟨t1, t2, t3, t4⟩ := q0g0 p1
  obtain ⟨u1, u2, u3, u4, u5, u6, u7⟩ := q0cm hg
  have hsl := q0re g pl t1.2 p2.2
  have hsl2 := q0rf g pl
  have hrv := q0qj (n := g.w.length) hg hpl hot
  have hil := q0e7 g.nd pl g.nd.length
  have hil2 := q0e7 g.nd (1 - pl) g.nd.length
  have hmul : ∀ n : Nat, n <= g.nd.length -> n * g.w.length <= 60 * 6 := fun n hn => Nat.mul_le_mul (by omega) p2.2
  refine q0ac (by simp) ?_
  simp -implicitDefEqProofs only [go_sem, evR, ints, rows, rat, rats, q03e, q0ck, q0tu, nodes, q0jc]
  rw [wrap64 (n := 1 - (1 - pl)) (by omega) (by omega), show 1 - (1 - pl) = pl by omega]
  refine ⟨by omega, by omega, by omega, by omega, ?_⟩
  refine ⟨?_, ((q09v.refl _ _ _).upd _ (.inl (by simp))).upd _ (.inl (by simp))⟩
  simp -implicitDefEqProofs only [go_sem, evR, ints, rows, rat, rats, q0k7]
  have hoL : ∀ q, ownL g q = q0z5 (idxs g.nd q g.nd.length) g.w.length g.nd.length (idxs g.nd q g.nd.length).length := fun q => rfl
  have hfl : ∀ q j, (q0z5 (idxs g.nd q g.nd.length) g.w.length g.nd.length j).length = g.nd.length := fun q j => q0z7 _ _ _ _
  have hfs : ∀ q j (n : Nat), (idxs g.nd q g.nd.length)[j]? = some (n : Int) -> q0z5 (idxs g.nd q g.nd.length) g.w.length g.nd.length (j + 1) = (q0z5 (idxs g.nd q g.nd.length) g.w.length g.nd.length j).set n ((j * g.w.length : Nat) : Int) := fun q j n h => by
    rw [q0z5, List.getD_eq_getElem?_getD, h]; rfl
  refine q006.res (q0et g.nd pl (by omega)) [] rfl Try.call181 ?_ (.inl rfl) ?_
  · simp -implicitDefEqProofs only [agR, Nat.reduceLeDiff, Nat.reduceSub, vaR, go_sem, ints, rows, rat, rats, q0p1, rtR, intsO, q0qa]
  simp -implicitDefEqProofs only [clR, Nat.reduceLeDiff, go_sem, evR, rat, intsO, q0k7]
  refine SemC.loopR (σ := Nat) (fun j => St.of [(2, .own 2), (3, .own 3), (5, .own 5), (6, .own 6), (7, .t (.i g.w.length)), (42, .own 42), (43, .t (.i (idxs g.nd pl g.nd.length).length)), (44, .t (.i j))] [(2, .box [nodes g.nd, rows g.w, rows g.v]), (3, .box [.i (1 - pl), rows ot]), (5, .box [.i 0, .v (.slice none 0 0)]), (6, q0p2 g ot pl (q0z5 (idxs g.nd pl g.nd.length) g.w.length g.nd.length j) (List.replicate g.nd.length 0)), (42, intsO (idxs g.nd pl g.nd.length))]) (fun j => j <= (idxs g.nd pl g.nd.length).length) (fun j => (idxs g.nd pl g.nd.length).length - j) 0 (Weak.of _ _ [some 2, some 3, some 5, some 6, some 42] (by simp) (by simp) ?_ ?_) (by omega) fun j hj R hn hr he => ?_
  · simp -implicitDefEqProofs only [ints, rows, Nat.reduceBEq, wkR, Nat.reduceEqDiff, ↓reduceIte, wrR, nodes, q0k7]
  · refine ⟨⟨_, rfl, .refl _⟩, rfl, ⟨_, rfl, .refl _⟩, rfl, ⟨_, rfl, .refl _⟩, rfl, ⟨_, rfl, ?_⟩, rfl, ⟨_, rfl, .refl _⟩, rfl, trivial⟩
    have e : T.arr 1 (List.replicate g.nd.length (T.v (Value.int IntKind.i64 0))) = intsO (List.replicate g.nd.length 0) := by rw [intsO, List.map_replicate]
    rw [e]; exact .refl _
  · rcases Nat.lt_or_ge j (idxs g.nd pl g.nd.length).length with h9 | h9
    · obtain ⟨y, hy⟩ : ∃ y, (idxs g.nd pl g.nd.length)[j]? = some y := ⟨_, List.getElem?_eq_getElem h9⟩
      obtain ⟨n, rfl, hn1⟩ := q0e9 hy
      have hjm := hmul j (by omega)
      simp -implicitDefEqProofs only [go_sem, evR, ints, rows, rat, rats, q0p2, nodes, hy, intsO, decide_eq_true (show (j : Int) < ((idxs g.nd pl g.nd.length).length : Int) by omega), hfl]
      refine ⟨by omega, by omega, by omega, by omega, by omega, by omega, hn _ (j + 1) (Weak.trans (Weak.join2 Try.prog q0wk (sl 49) (sl 50) rfl rfl rfl rfl (by decide) (by simp)) (Weak.of _ _ [some 2, some 3, some 5, some 6, some 42] (by simp) (by simp) ?_ ?_)) (by omega) (by omega)⟩
      · simp -implicitDefEqProofs only [ints, rows, Nat.reduceBEq, wkR, Nat.reduceEqDiff, ↓reduceIte, wrR, nodes, q0lb h9 (by omega)]
      · refine ⟨⟨_, rfl, .refl _⟩, rfl, ⟨_, rfl, .refl _⟩, rfl, ⟨_, rfl, .refl _⟩, rfl, ⟨_, rfl, ?_⟩, rfl, ⟨_, rfl, .refl _⟩, rfl, trivial⟩
        rw [hfs _ _ _ hy, q0p2, intsO, List.map_set, wrap64 (n := (j : Int) * (g.w.length : Int)) (by omega) (by omega), ← Int.natCast_mul]; exact .refl _
    · simp -implicitDefEqProofs only [go_sem, evR, ints, rows, rat, rats, q0p2, nodes, intsO, decide_eq_false (show ¬ (j : Int) < ((idxs g.nd pl g.nd.length).length : Int) by omega)]
      refine he _ _ ?_
      simp -implicitDefEqProofs only [go_sem, evR, ints, rows, rat, rats]
      rw [show j = (idxs g.nd pl g.nd.length).length by omega, ← hoL]
      clear hn hr he R
      refine q006.res (q0et g.nd (1 - pl) (by omega)) [] rfl Try.call181 ?_ (.inl rfl) ?_
      · simp -implicitDefEqProofs only [agR, Nat.reduceLeDiff, Nat.reduceSub, vaR, go_sem, ints, rows, rat, rats, q0p1, rtR, intsO, q0qa]
      simp -implicitDefEqProofs only [clR, Nat.reduceLeDiff, go_sem, evR, rat, intsO]
      refine SemC.loopR (σ := Nat) (fun j => St.of [(2, .own 2), (3, .own 3), (5, .own 5), (6, .own 6), (7, .t (.i g.w.length)), (61, .own 61), (62, .t (.i (idxs g.nd (1 - pl) g.nd.length).length)), (63, .t (.i j))] [(2, .box [nodes g.nd, rows g.w, rows g.v]), (3, .box [.i (1 - pl), rows ot]), (5, .box [.i 0, .v (.slice none 0 0)]), (6, q0p2 g ot pl (ownL g pl) (q0z5 (idxs g.nd (1 - pl) g.nd.length) g.w.length g.nd.length j)), (61, intsO (idxs g.nd (1 - pl) g.nd.length))]) (fun j => j <= (idxs g.nd (1 - pl) g.nd.length).length) (fun j => (idxs g.nd (1 - pl) g.nd.length).length - j) 0 (Weak.of _ _ [some 2, some 3, some 5, some 6, some 61] (by simp) (by simp) ?_ ?_) (by omega) fun j hj R hn hr he => ?_
      · simp -implicitDefEqProofs only [ints, rows, Nat.reduceBEq, wkR, Nat.reduceEqDiff, ↓reduceIte, wrR, nodes, q0k7]
      · refine ⟨⟨_, rfl, .refl _⟩, rfl, ⟨_, rfl, .refl _⟩, rfl, ⟨_, rfl, .refl _⟩, rfl, ⟨_, rfl, .refl _⟩, rfl, ⟨_, rfl, .refl _⟩, rfl, trivial⟩
      · have hol := q10z g pl
        rcases Nat.lt_or_ge j (idxs g.nd (1 - pl) g.nd.length).length with h9 | h9
        · obtain ⟨y, hy⟩ : ∃ y, (idxs g.nd (1 - pl) g.nd.length)[j]? = some y := ⟨_, List.getElem?_eq_getElem h9⟩
          obtain ⟨n, rfl, hn1⟩ := q0e9 hy
          have hjm := hmul j (by omega)
          simp -implicitDefEqProofs only [go_sem, evR, ints, rows, rat, rats, q0p2, nodes, hy, intsO, decide_eq_true (show (j : Int) < ((idxs g.nd (1 - pl) g.nd.length).length : Int) by omega), hfl]
          refine ⟨by omega, by omega, by omega, by omega, by omega, by omega, hn _ (j + 1) (Weak.trans (Weak.join2 Try.prog q0wk (sl 68) (sl 69) rfl rfl rfl rfl (by decide) (by simp)) (Weak.of _ _ [some 2, some 3, some 5, some 6, some 61] (by simp) (by simp) ?_ ?_)) (by omega) (by omega)⟩
          · simp -implicitDefEqProofs only [ints, rows, Nat.reduceBEq, wkR, Nat.reduceEqDiff, ↓reduceIte, wrR, nodes, q0lb h9 (by omega)]
          · refine ⟨⟨_, rfl, .refl _⟩, rfl, ⟨_, rfl, .refl _⟩, rfl, ⟨_, rfl, .refl _⟩, rfl, ⟨_, rfl, ?_⟩, rfl, ⟨_, rfl, .refl _⟩, rfl, trivial⟩
            rw [hfs _ _ _ hy, q0p2, intsO, intsO, List.map_set, wrap64 (n := (j : Int) * (g.w.length : Int)) (by omega) (by omega), ← Int.natCast_mul]; exact .refl _
        · simp -implicitDefEqProofs only [go_sem, evR, ints, rows, rat, rats, q0p2, nodes, intsO, decide_eq_false (show ¬ (j : Int) < ((idxs g.nd (1 - pl) g.nd.length).length : Int) by omega)]
          refine he _ _ ?_
          simp -implicitDefEqProofs only [go_sem, evR, ints, rows, rat, rats]
          rw [show j = (idxs g.nd (1 - pl) g.nd.length).length by omega, ← hoL]
          clear hn hr he R
          have hm1 := hmul (idxs g.nd pl g.nd.length).length (by omega)
          have hm2 : (g.w.length : Int) * ((idxs g.nd pl g.nd.length).length : Int) = ((sets g pl).length : Nat) := by rw [hsl2, Int.natCast_mul, Int.mul_comm]
          refine q000.res (q0et g.nd pl (by omega)) [] rfl Try.call181 (fun e R' hR => ?_) (.inl rfl) ?_
          · simp -implicitDefEqProofs only [agR, Nat.reduceLeDiff, Nat.reduceSub, vaR, go_sem, ints, rows, rat, rats, q0p1, rtR, intsO, q0qa]
          simp -implicitDefEqProofs only [clR, Nat.reduceLeDiff, go_sem, evR, rat, intsO, q0jc, hm2, wrap64 (n := ((sets g pl).length : Int)) (by omega) (by omega)]
          refine ⟨by omega, by omega, ?_⟩
          refine SemC.loopR (σ := Nat) (fun k => St.of [(2, .own 2), (5, .own 5), (6, .own 6), (7, .t (.i g.w.length)), (12, .t (.i (runV g ot pl k))), (89, .t (.i g.w.length)), (90, .t (.i k))] [(2, .box [nodes g.nd, rows g.w, rows g.v]), (5, .box [.i 0, .v (.slice none 0 0)]), (6, q0p3 g ot pl (runB g ot pl k))]) (fun k => k <= g.w.length) (fun k => g.w.length - k) 0 (Weak.trans (Weak.open 6 5 500 rfl rfl rfl (by decide) rfl) (Weak.trans (Weak.shareJoin 6 5 500 rfl rfl (by decide) rfl (by simp)) (Weak.trans (Weak.open 6 6 501 rfl rfl rfl (by decide) rfl) (Weak.trans (Weak.shareJoin 6 6 501 rfl rfl (by decide) rfl (by simp)) (Weak.of _ _ [some 2, some 5, some 6] (by simp) (by simp) ?_ ?_))))) (by omega) fun k hk R hn hr he => ?_
          · simp -implicitDefEqProofs only [ints, rows, Nat.reduceBEq, wkR, Nat.reduceEqDiff, ↓reduceIte, wrR, nodes, q0k7, runV, List.range_zero, List.map_nil, sumI, q0rg]
          · refine ⟨⟨_, rfl, .refl _⟩, rfl, ⟨_, rfl, .refl _⟩, rfl, ⟨_, rfl, ?_⟩, rfl, trivial⟩
            have e1 : (T.arr 1 (List.map T.i (ownL g pl))).toSh = ints (ownL g pl) := q0fi _
            have e2 : (T.arr 1 (List.map T.i (ownL g (1 - pl)))).toSh = ints (ownL g (1 - pl)) := q0fi _
            rw [e1, e2]
            exact .bc (.refl _) (.bc (.refl _) (.bc (.refl _) (.bc (.refl _) (.bc (.any _) (.bc (.refl _) (.bc (.refl _) (.bc (.refl _) (.bc (.refl _) (.bc (Le.nilRows _) (.refl _))))))))))
          · rcases Nat.lt_or_ge k g.w.length with h9 | h9
            · simp -implicitDefEqProofs only [go_sem, evR, ints, rows, rat, rats, q0p3, nodes, q0jc, decide_eq_true (show (k : Int) < (g.w.length : Int) by omega)]
              refine ⟨by omega, by omega, ?_⟩
              have hrl := q0p6 g pl k
              refine SemC.loopR (σ := Nat) (fun b => St.of [(2, .own 2), (5, .own 5), (6, .own 6), (7, .t (.i g.w.length)), (12, .t (.i (runV g ot pl k))), (13, .t (.i k)), (14, .own 77), (89, .t (.i g.w.length)), (90, .t (.i k)), (97, .own 77), (98, .t (.i g.w.length)), (99, .t (.i b))] [(2, .box [nodes g.nd, rows g.w, rows g.v]), (5, .box [.i 0, .v (.slice none 0 0)]), (6, rbox g ot pl k (runB g ot pl k)), (77, .arr 1 (filled (q0p4 g pl k) T.i (.i 0) b))]) (fun b => b <= g.w.length) (fun b => g.w.length - b) 0 (Weak.of _ _ [some 2, some 5, some 6, some 96] (by simp) (by simp) ?_ ?_) (by omega) fun b hb R2 hn2 hr2 he2 => ?_
              · simp -implicitDefEqProofs only [ints, rows, Nat.reduceBEq, wkR, Nat.reduceEqDiff, ↓reduceIte, wrR, nodes, rbox, List.length_replicate]
              · refine ⟨⟨_, rfl, .refl _⟩, rfl, ⟨_, rfl, .refl _⟩, rfl, ⟨_, rfl, .refl _⟩, rfl, ⟨_, rfl, ?_⟩, rfl, trivial⟩
                rw [q097, hrl]; exact .refl _
              · have hfl := q095 (q0p4 g pl k) T.i (.i 0) b (by omega)
                rcases Nat.lt_or_ge b g.w.length with h8 | h8
                · obtain ⟨u, v, r, y, d1, d2, d3, d4, d5, d6, d7⟩ := q07t hg hpl h9 h8
                  have fin : ∀ S, Weak 139 S (St.of [(2, .own 2), (5, .own 5), (6, .own 6), (7, .t (.i g.w.length)), (12, .t (.i (runV g ot pl k))), (13, .t (.i k)), (14, .own 77), (89, .t (.i g.w.length)), (90, .t (.i k)), (97, .own 77), (98, .t (.i g.w.length)), (99, .t (.i (b + 1 : Nat)))] [(2, .box [nodes g.nd, rows g.w, rows g.v]), (5, .box [.i 0, .v (.slice none 0 0)]), (6, rbox g ot pl k (runB g ot pl k)), (77, .arr 1 (filled (q0p4 g pl k) T.i (.i 0) (b + 1)))]) -> R2 .normal S := fun S h => hn2 S (b + 1) h (by omega) (by omega)
                  rw [← q096 d5] at fin
                  clear hn2
                  rcases hpl with rfl | rfl
                  · have d1 : k = u := by have e : (k : Int) = (u : Int) := d1; omega
                    have d2 : b = v := by have e : (b : Int) = (v : Int) := d2; omega
                    subst d1 d2
                    simp -implicitDefEqProofs only [go_sem, evR, ints, rows, rat, rats, rbox, nodes, d3, d4, hfl, decide_eq_true (show (b : Int) < (g.w.length : Int) by omega)]
                    refine ⟨fun _ => ⟨by omega, by omega, by omega, by omega, by omega, by omega, by omega, by omega, by omega, ?_⟩, fun h => absurd h (by decide)⟩
                    · refine fin _ (Weak.of _ _ [some 2, some 5, some 6, some 77] (by simp) (by simp) ?_ ?_)
                      · simp -implicitDefEqProofs only [ints, rows, Nat.reduceBEq, wkR, Nat.reduceEqDiff, ↓reduceIte, wrR, rbox, nodes, q0lb h8 (by omega)]
                      · exact ⟨⟨_, rfl, .refl _⟩, rfl, ⟨_, rfl, .refl _⟩, rfl, ⟨_, rfl, .refl _⟩, rfl, ⟨_, rfl, .refl _⟩, rfl, trivial⟩
                  · have d1 : b = u := by have e : (b : Int) = (u : Int) := d1; omega
                    have d2 : k = v := by have e : (k : Int) = (v : Int) := d2; omega
                    subst d1 d2
                    simp -implicitDefEqProofs only [go_sem, evR, ints, rows, rat, rats, rbox, nodes, d3, d4, hfl, decide_eq_true (show (b : Int) < (g.w.length : Int) by omega)]
                    refine ⟨fun h => absurd h (by decide), fun _ => ⟨by omega, by omega, by omega, by omega, by omega, by omega, by omega, by omega, by omega, ?_⟩⟩
                    · refine fin _ (Weak.of _ _ [some 2, some 5, some 6, some 77] (by simp) (by simp) ?_ ?_)
                      · simp -implicitDefEqProofs only [ints, rows, Nat.reduceBEq, wkR, Nat.reduceEqDiff, ↓reduceIte, wrR, rbox, nodes, q0lb h8 (by omega)]
                      · exact ⟨⟨_, rfl, .refl _⟩, rfl, ⟨_, rfl, .refl _⟩, rfl, ⟨_, rfl, .refl _⟩, rfl, ⟨_, rfl, .refl _⟩, rfl, trivial⟩
                · simp -implicitDefEqProofs only [go_sem, evR, ints, rows, rat, rats, rbox, nodes, decide_eq_false (show ¬ (b : Int) < (g.w.length : Int) by omega)]
                  refine he2 _ _ ?_
                  simp -implicitDefEqProofs only [go_sem, evR, ints, rows, rat, rats, rbox, nodes]
                  rw [show b = (q0p4 g pl k).length by omega, q093]
                  refine ⟨_, Weak.trans (Weak.share 77 rfl) (Weak.of [(2, .own 2), (5, .own 5), (6, .own 6), (7, .t (.i g.w.length)), (12, .t (.i (runV g ot pl k))), (13, .t (.i k)), (14, .t (ints (q0p4 g pl k))), (89, .t (.i g.w.length)), (90, .t (.i k))] [(2, .box [nodes g.nd, rows g.w, rows g.v]), (5, .box [.i 0, .v (.slice none 0 0)]), (6, rbox g ot pl k (runB g ot pl k))] [some 2, some 5, some 6] (by simp) (by simp) ?_ ?_), ?_⟩
                  · simp -implicitDefEqProofs only [ints, rows, Nat.reduceBEq, wkR, Nat.reduceEqDiff, ↓reduceIte, wrR, q0rg, rbox, nodes, T.toSh, T.toShL_eq_map, List.map_map]
                    exact .inr (.inl rfl)
                  · exact ⟨⟨_, rfl, .refl _⟩, rfl, ⟨_, rfl, .refl _⟩, rfl, ⟨_, rfl, .refl _⟩, rfl, trivial⟩
                  · simp -implicitDefEqProofs only [go_sem, evR, ints, rows, rat, rats, rbox, nodes]
                    refine q006.pure (q080 (q0ek t2 (by omega) g.nd.length 0 (by omega) (by omega) (by omega))) [] rfl Try.call164 ?_ (by first | trivial | simp [T.noSh, T.noShL, rat]) rfl ?_
                    · simp -implicitDefEqProofs only [agR, Nat.reduceLeDiff, Nat.reduceSub, vaR, go_sem, ints, rows, rat, rats, q0p1, rtR, intsO, q0qa]
                    simp -implicitDefEqProofs only [go_sem, evR, ints, rows, rat, rats]
                    rw [u2]
                    have hc := cap0 hg pl k
                    have hcall := q0ey hg hpl hot h9 g.nd.length 0 (q0p4 g pl k) (dpt g) (runB g ot pl k) (by omega) (by omega) hrl hc.2 (by rw [q0z1]; exact Int.le_refl _) u3 hc.1 (q0qh t2 ot pl k)
                    rw [← q0qi] at hcall
                    simp only [rbox, nodes, rows, ints] at hcall
                    have hv1 := q0qj hg hpl hot k
                    have hv2 := q0qj hg hpl hot (k + 1)
                    have hcv : capV = 4199040000000 := rfl
                    have hk6 : ((k + 1 : Nat) : Int) * capV <= 6 * capV := Int.mul_le_mul_of_nonneg_right (by omega) (by decide)
                    rw [q0qk] at hv2
                    refine q006.ref hcall [6] [] rfl Try.call182 (by simp) ?_ (by simp) ?_ (.inl rfl) ?_
                    · simp -implicitDefEqProofs only [srR, Nat.reduceEqDiff, ↓reduceIte, ints, rows, intsO, q0qa]
                    · simp -implicitDefEqProofs only [agR, Nat.reduceLeDiff, Nat.reduceSub, vaR, go_sem, ints, rows, rat, rats, q0p1, rtR, intsO, q0qa]
                    simp -implicitDefEqProofs only [clR, Nat.reduceLeDiff, go_sem, evR, rat]
                    refine hn _ (k + 1) (Weak.of _ _ [some 2, some 5, some 6] (by simp) (by simp) ?_ ?_) (by omega) (by omega)
                    · simp -implicitDefEqProofs only [ints, rows, Nat.reduceBEq, wkR, Nat.reduceEqDiff, ↓reduceIte, wrR, q0p3, nodes, q0lb h9 (by omega), wrap64 (n := runV g ot pl k + q01z g ot pl k g.nd.length 0 (q0p4 g pl k) (dpt g)) (by omega) (by omega), q0qk]
                    · refine ⟨⟨_, rfl, .refl _⟩, rfl, ⟨_, rfl, .refl _⟩, rfl, ⟨_, rfl, ?_⟩, rfl, trivial⟩
                      exact .bc (.refl _) (.bc (.refl _) (.bc (.refl _) (.bc (.refl _) (.bc (.any _) (.refl _)))))
            · simp -implicitDefEqProofs only [go_sem, evR, ints, rows, rat, rats, q0p3, nodes, decide_eq_false (show ¬ (k : Int) < (g.w.length : Int) by omega)]
              refine he _ _ ?_
              simp -implicitDefEqProofs only [go_sem, evR, ints, rows, rat, rats]
              refine ⟨_, Weak.open 6 9 500 rfl rfl rfl (by decide) rfl, ?_⟩
              simp -implicitDefEqProofs only [go_sem, evR, ints, rows, rat, rats, List.lookup_cons, beq_self_eq_true, Nat.reduceBEq]
              rw [show k = g.w.length by omega]; rfl
end

theorem q0tr {g : Gm} {s : Int × List (List Int)} (h : strB g s = true) : q0fl g = true /\ (s.1 = 0 ∨ s.1 = 1) /\ q0ft g s.1 s.2 = true := by
  simp only [strB, Bool.and_eq_true, decide_eq_true_eq] at h
  exact ⟨h.1.1, by omega, h.2⟩
theorem q0ts {g : Gm} {s : Int × List (List Int)} (h : strB g s = true) : q0fl g = true /\ (1 - s.1 = 0 ∨ 1 - s.1 = 1) /\ q0nw g s.2 (1 - (1 - s.1)) /\ (1 - (1 - s.1), s.2) = s := by
  obtain ⟨h1, h2, h3⟩ := q0tr h
  refine ⟨h1, by omega, ?_, ?_⟩
  · rw [show 1 - (1 - s.1) = s.1 by omega]; exact q0nx h3
  · rw [show 1 - (1 - s.1) = s.1 by omega]
theorem q0t2 {g : Gm} {s : Int × List (List Int)} (h : strB g s = true) : Fun Try.prog 132 [] [.t (.agg [.sh 5 (chunk q0lu g.nd), .sh 1 (g.w.map ints), .sh 1 (g.v.map ints)]), .t (.agg [.i s.1, .sh 1 (s.2.map ints)])] fun o r => o = [] /\ r = runT g s.2 (1 - s.1) := by
  obtain ⟨h1, h2, h3, h4⟩ := q0ts h
  have := q0sq h1 h2 h3
  rw [h4] at this
  exact this
theorem q0ez {g : Gm} {s : Int × List (List Int)} (h : strB g s = true) : Fun Try.prog 122 [] [.t (.agg [.sh 5 (chunk q0lu g.nd), .sh 1 (g.w.map ints), .sh 1 (g.v.map ints)]), .t (.agg [.i s.1, .sh 1 (s.2.map ints)])] fun o r => o = [] /\ r = runT g s.2 (1 - s.1) := by
  obtain ⟨h1, h2, h3, h4⟩ := q0ts h
  have := q0ei h1 h2 h3
  rw [h4] at this
  exact this
def q01x (g : Gm) (s : Int × List (List Int)) : Int := runV g s.2 (1 - s.1) g.w.length
theorem q01y {g : Gm} {s : Int × List (List Int)} (h : strB g s = true) : -25194240000000 <= q01x g s /\ q01x g s <= 25194240000000 := by
  obtain ⟨h1, h2, h3, h4⟩ := q0ts h
  obtain ⟨_, hk, _⟩ := q0fo h1
  have hv := q0qj h1 h2 h3 g.w.length
  have hcv : capV = 4199040000000 := rfl
  have hk6 : ((g.w.length : Nat) : Int) * capV <= 6 * capV := Int.mul_le_mul_of_nonneg_right (by omega) (by decide)
  unfold q01x
  omega
def q0nn (g : Gm) (s t : Int × List (List Int)) : Bool := strB g s && strB g t && decide (s.1 = 0) && decide (t.1 = 1)
theorem q0np {g : Gm} {s t : Int × List (List Int)} (h : q0nn g s t = true) : strB g s = true /\ strB g t = true /\ s.1 = 0 /\ t.1 = 1 := by
  simp only [q0nn, Bool.and_eq_true, decide_eq_true_eq] at h
  exact ⟨h.1.1.1, h.1.1.2, h.1.2, h.2⟩
theorem q0no {g : Gm} {s t : Int × List (List Int)} : q0nn g s t = true ↔ q0fl g = true /\ s.1 = 0 /\ t.1 = 1 /\ q0ft g s.1 s.2 = true /\ q0ft g t.1 t.2 = true := by
  simp only [q0nn, strB, Bool.and_eq_true, decide_eq_true_eq]
  constructor
  · rintro ⟨⟨⟨⟨⟨h1, h2⟩, h3⟩, ⟨_, h4⟩, h5⟩, h6⟩, h7⟩
    exact ⟨h1, h6, h7, h3, h5⟩
  · rintro ⟨h1, h2, h3, h4, h5⟩
    exact ⟨⟨⟨⟨⟨h1, by omega⟩, h4⟩, ⟨h1, by omega⟩, h5⟩, h2⟩, h3⟩
section
attribute [-go_sem] q0i5 q0id fldC lenC idxC q0ip q0lp
theorem q0so (g : Gm) (s t : Int × List (List Int)) (h : q0nn g s t = true) : Pure Try.prog 124 [q0ck g, q0tu s, q0tu t] (.tup [.i (q01x g t), .i (q01x g s)]) := by
  obtain ⟨h1, h2, _⟩ := q0np h
  refine q0c2 (by simp) ?_
  simp -implicitDefEqProofs only [go_sem, evR, ints, rows, rat, rats, q054, q0ck, q0tu, nodes]
  refine q006.res (q0t2 h2) [] rfl Try.call132 ?_ (.inl rfl) ?_
  · simp -implicitDefEqProofs only [agR, Nat.reduceLeDiff, Nat.reduceSub, vaR, go_sem, ints, rows, rat, rats, q0p1, rtR, intsO, q0qa]
  simp -implicitDefEqProofs only [clR, Nat.reduceLeDiff, go_sem, evR, rat, runT, q0qa]
  refine q006.res (q0t2 h1) [] rfl Try.call132 ?_ (.inl rfl) ?_
  · simp -implicitDefEqProofs only [agR, Nat.reduceLeDiff, Nat.reduceSub, vaR, go_sem, ints, rows, rat, rats, q0p1, rtR, intsO, q0qa]
  simp -implicitDefEqProofs only [clR, Nat.reduceLeDiff, go_sem, evR, rat, runT, q0qa]
  rfl
theorem q0f6 (g : Gm) (s t : Int × List (List Int)) (h : q0nn g s t = true) : Pure Try.prog 146 [q0ck g, q0tu s, q0tu t] (.tup [.i (-q01x g s), .i (q01x g t)]) := by
  obtain ⟨h1, h2, _⟩ := q0np h
  have b1 := q01y h1
  refine q0as (by simp) ?_
  simp -implicitDefEqProofs only [go_sem, evR, ints, rows, rat, rats, q03u, q0ck, q0tu, nodes]
  refine q006.res (q0ez h1) [] rfl Try.call122 ?_ (.inl rfl) ?_
  · simp -implicitDefEqProofs only [agR, Nat.reduceLeDiff, Nat.reduceSub, vaR, go_sem, ints, rows, rat, rats, q0p1, rtR, intsO, q0qa]
  simp -implicitDefEqProofs only [clR, Nat.reduceLeDiff, go_sem, evR, rat, runT, q0qa]
  refine q006.res (q0ez h2) [] rfl Try.call122 ?_ (.inl rfl) ?_
  · simp -implicitDefEqProofs only [agR, Nat.reduceLeDiff, Nat.reduceSub, vaR, go_sem, ints, rows, rat, rats, q0p1, rtR, intsO, q0qa]
  simp -implicitDefEqProofs only [clR, Nat.reduceLeDiff, go_sem, evR, rat, runT, q0qa]
  rw [show 0 - runV g s.2 (1 - s.1) g.w.length = -q01x g s by unfold q01x; omega, wrap64 (n := -q01x g s) (by omega) (by omega)]; rfl
theorem vb_t {f : FuncId} {g : Gm} {s t : Int × List (List Int)} {r : T} (h : Pure Try.prog f [q0ck g, q0tu s, q0tu t] r) : Pure Try.prog f [.agg [.sh 5 (chunk q0lu g.nd), .sh 1 (g.w.map ints), .sh 1 (g.v.map ints)], .agg [.i s.1, .sh 1 (s.2.map ints)], .agg [.i t.1, .sh 1 (t.2.map ints)]] r := h
def expN (g : Gm) (s t : Int × List (List Int)) : Int := q01x g t + q01x g s
theorem q08v {g : Gm} {s t : Int × List (List Int)} (h : q0nn g s t = true) : -50388480000000 <= expN g s t /\ expN g s t <= 50388480000000 := by
  obtain ⟨h1, h2, _⟩ := q0np h
  have b1 := q01y h1
  have b2 := q01y h2
  unfold expN; omega
theorem q0el (g : Gm) (s t : Int × List (List Int)) (h : q0nn g s t = true) : Pure Try.prog 128 [q0ck g, q0tu s, q0tu t] (.i (expN g s t)) := by
  have b1 := q08v h
  refine q0ae (by simp) ?_
  simp -implicitDefEqProofs only [go_sem, evR, ints, rows, rat, rats, q03g, q0ck, q0tu, nodes]
  refine q006.pure (vb_t (q0f6 g s t h)) [] rfl Try.call146 ?_ (by first | trivial | simp [T.noSh, T.noShL, rat]) rfl ?_
  · simp -implicitDefEqProofs only [agR, Nat.reduceLeDiff, Nat.reduceSub, vaR, go_sem, ints, rows, rat, rats, q0p1, rtR, intsO, q0qa]
  simp -implicitDefEqProofs only [go_sem, evR, ints, rows, rat, rats]
  rw [show q01x g t - -q01x g s = expN g s t by unfold expN; omega, wrap64 (n := expN g s t) (by omega) (by omega)]
end

def q0qc (m : List (List Int)) : Prop := m.length <= 1048576 /\ tot m <= 1048576
def q0ch (g : Gm) : Prop := q0qc (chs g.nd) /\ q0qc g.w /\ q0qc g.v
theorem q0qd {m : List (List Int)} (h : q0qc m) : q0q5 m := ⟨by have := h.1; omega, fun r hr => by have := q0vn hr; have := h.2; omega⟩
theorem q0qe {m : List (List Int)} (h : q0qc m) : q0q9 m := ⟨by have := h.1; omega, fun r hr => by have := q0vn hr; have := h.2; omega⟩
theorem q066 {l : List Nd} {x : Nd} (h : x ∈ l) : x.ch ∈ chs l := List.mem_map.2 ⟨x, h, rfl⟩
theorem q065 (l : List Nd) : (chs l).length = l.length := by simp [chs]
theorem q0ci {g : Gm} (h : q0ch g) : q0ce g := by
  have h1 := q0qd h.1
  exact ⟨by have := h1.1; rw [q065] at this; exact this, fun x hx => h1.2 _ (q066 hx), q0qd h.2.1, q0qd h.2.2⟩
theorem q0cj {g : Gm} (h : q0ch g) : q0cf g := by
  have h1 := q0qe h.1
  exact ⟨by have := h1.1; rw [q065] at this; exact this, fun x hx => h1.2 _ (q066 hx), q0qe h.2.1, q0qe h.2.2⟩
theorem q02p {m : List (List Int)} {left : Int} (h0 : 0 <= left) (h1 : left <= 1048576) (h : ¬ q02q m left < 0) : q0qc m /\ 0 <= q02q m left /\ q02q m left <= 1048576 := by
  have h2 := q0ko (m := m) (left := left) (by omega)
  have h3 := (q02r (m := m) (left := left) h0 (by omega)).1
  have h4 := q02s (m := m) (left := left) h0 (by omega)
  exact ⟨⟨by omega, by omega⟩, by omega, by omega⟩
theorem q02o {g : Gm} {left : Int} (h0 : 0 <= left) (h1 : left <= 1048576) (h : ¬ q02n g left < 0) : q0ch g /\ 0 <= q02n g left /\ q02n g left <= 1048576 := by
  unfold q02n at h ⊢
  by_cases a : q02q (chs g.nd) left < 0
  · rw [if_pos a] at h; exact absurd h (by decide)
  rw [if_neg a] at h ⊢
  obtain ⟨a1, a2, a3⟩ := q02p h0 h1 a
  by_cases b : q02q g.w (q02q (chs g.nd) left) < 0
  · rw [if_pos b] at h; exact absurd h (by decide)
  rw [if_neg b] at h ⊢
  obtain ⟨b1, b2, b3⟩ := q02p a2 a3 b
  obtain ⟨c1, c2, c3⟩ := q02p b2 b3 h
  exact ⟨⟨a1, b1, c1⟩, c2, c3⟩

def q130 : CC :=
 (.seq (.regL [.o (.box 2 (sl 0)),
 .o (.move 4 (ci 0))])
 ((.seq (.reg [.o (.fld 5 0 (sl 2)),
 .o (.loadN 6 1 (sl 5)),
 .o (.move 7 (sl 1)),
 .o (.call (some 8) (cf 102) [(sl 6), (sl 7)]),
 .o (.move 1 (sl 8))])
 ((.seq (.reg [.o (.fld 9 1 (sl 2)),
 .o (.load1 10 (sl 9)),
 .o (.move 11 (sl 1)),
 .o (.call (some 12) (cf 27) [(sl 10), (sl 11)]),
 .o (.move 1 (sl 12))])
 ((.seq (.reg [.o (.fld 13 2 (sl 2)),
 .o (.load1 14 (sl 13)),
 .o (.move 15 (sl 1)),
 .o (.call (some 16) (cf 27) [(sl 14), (sl 15)]),
 .o (.move 1 (sl 16))])
 ((.seq (.reg [.o (.move 17 (sl 1)),
 .o (.move 4 (sl 17))])
 (.ret))))))))))
theorem q138 {rin : List T} {args : List A} {Q : List T -> T -> Prop} (ha : args.length <= 18) (h : cW Try.prog 18 q130 (retP Try.prog [.tmp 4] rin.length Q) (St.of (enum 0 args) (enum 1000000000 rin))) :
    Fun Try.prog 26 rin args Q :=
  Fun.of (H := ⟨[], [1000]⟩) Try.func26 rfl rfl rfl (by kernel_rfl) ha (by decide) h

def q134 : CC :=
 (.seq (.regL [.o (.box 2 (sl 0)),
 .o (.move 4 (ci 0))])
 ((.seq (.reg [.o (.fld 5 0 (sl 2)),
 .o (.load1 6 (sl 5)),
 .o (.move 7 (sl 1)),
 .o (.call (some 8) (cf 166) [(sl 6), (sl 7)]),
 .o (.move 1 (sl 8))])
 ((.seq (.reg [.o (.move 9 (sl 1)),
 .o (.move 4 (sl 9))])
 (.ret))))))
theorem q13c {rin : List T} {args : List A} {Q : List T -> T -> Prop} (ha : args.length <= 10) (h : cW Try.prog 10 q134 (retP Try.prog [.tmp 4] rin.length Q) (St.of (enum 0 args) (enum 1000000000 rin))) :
    Fun Try.prog 102 rin args Q :=
  Fun.of (H := ⟨[], [1000]⟩) Try.func102 rfl rfl rfl (by kernel_rfl) ha (by decide) h

def q03k : CC :=
 (.seq (.reg [.o (.box 3 (sl 0)),
 .o (.box 4 (sl 1)),
 .o (.box 5 (sl 2)),
 .o (.move 6 (cv (.pointer none)))])
 ((.seq (.draw [25] [(kR, .o (.loadN 15 3 (sl 3))),
 (kR, .o (.fld 16 1 (sl 4))),
 (kR, .o (.load1 17 (sl 16))),
 (kR, .o (.fld 18 1 (sl 5))),
 (kR, .o (.load1 19 (sl 18))),
 (kR, .o (.build 20 [.v (.slice none 0 0), .v (.slice none 0 0)] [(0, 1), (1, 1)] [(0, (sl 17)), (1, (sl 19))])),
 (kR, .o (.fld 21 0 (sl 3))),
 (kR, .o (.fld 22 0 (sl 21))),
 (kR, .o (.load1 23 (sl 22))),
 (kR, .o (.lenS 24 (sl 23))),
 (kN, .o (.make 25 [.v (.int .i64 0)] 8 (sl 24) (sl 24))),
 (kR, .o (.build 26 [.v (.slice none 0 0), .v (.slice none 0 0), .v (.slice none 0 0), .v (.slice none 0 0), .v (.slice none 0 0), .v (.slice none 0 0), .v (.slice none 0 0), .v (.slice none 0 0)] [(0, 3), (3, 2), (5, 2), (7, 1)] [(0, (sl 15)), (2, (sl 20)), (3, (sl 25))])),
 (kH, .o (.box 27 (sl 26))),
 (kR, .o (.move 7 (sl 27)))])
 ((.seq (.seq (.reg [.o (.move 28 (ci 0))])
 ((.block 0 (.loop (.seq (.reg [.o (.bin 29 .lss (sl 28) (ci 2))])
 ((.seq (.cond (sl 29) .skip
 (.exit 0))
 ((.seq (.block 1 (.seq (.reg [.o (.move 30 (sl 28)),
 .o (.move 8 (sl 30))])
 ((.seq (.draw [37] [(kR, .o (.move 31 (sl 7))),
 (kR, .o (.move 32 (sl 8))),
 (kR, .o (.fld 33 0 (sl 3))),
 (kR, .o (.fld 34 0 (sl 33))),
 (kR, .o (.load1 35 (sl 34))),
 (kR, .o (.lenS 36 (sl 35))),
 (kN, .o (.make 37 [.v (.int .i64 0)] 8 (sl 36) (sl 36))),
 (.r false [37], .o (.nilc 38 (sl 31))),
 (.r false [37], .o (.fld 39 3 (sl 38))),
 (kR, .o (.idxA 40 2 1 (sl 39) (sl 32))),
 (kH, .o (.store 1 (sl 40) (sl 37)))])
 ((.seq (.reg [.o (.fld 41 0 (sl 3)),
 .o (.loadN 42 1 (sl 41)),
 .o (.move 43 (sl 8)),
 .o (.call (some 44) (cf 181) [(sl 42), (sl 43)]),
 .o (.lenS 45 (sl 44)),
 .o (.move 46 (ci 0))])
 ((.block 2 (.loop (.seq (.reg [.o (.bin 47 .lss (sl 46) (sl 45))])
 ((.seq (.cond (sl 47) .skip
 (.exit 2))
 ((.seq (.block 3 (.seq (.reg [.o (.move 48 (sl 46)),
 .o (.idx 49 1 (sl 44) (sl 46)),
 .o (.load1 50 (sl 49)),
 .o (.move 9 (sl 48)),
 .o (.move 10 (sl 50))])
 ((.weak (.draw [] [(kR, .o (.move 51 (sl 7))),
 (kR, .o (.move 52 (sl 8))),
 (kR, .o (.nilc 53 (sl 51))),
 (kR, .o (.fld 54 3 (sl 53))),
 (kR, .o (.idxA 55 2 1 (sl 54) (sl 52))),
 (kR, .o (.load1 56 (sl 55))),
 (kR, .o (.move 57 (sl 10))),
 (kR, .o (.move 58 (sl 9))),
 (kR, .o (.fld 59 1 (sl 3))),
 (kR, .o (.load1 60 (sl 59))),
 (kR, .o (.lenS 61 (sl 60))),
 (kR, .o (.bin 62 .mul (sl 58) (sl 61))),
 (kR, .o (.idx 63 1 (sl 56) (sl 57))),
 (kH, .o (.store 1 (sl 63) (sl 62)))])))))
 ((.reg [.o (.bin 64 .add (sl 46) (ci 1)),
 .o (.move 46 (sl 64))]))))))))))))))))
 ((.reg [.o (.bin 65 .add (sl 28) (ci 1)),
 .o (.move 28 (sl 65))])))))))))))
 ((.seq (.seq (.reg [.o (.fld 66 0 (sl 3)),
 .o (.fld 67 0 (sl 66)),
 .o (.load1 68 (sl 67)),
 .o (.lenS 69 (sl 68)),
 .o (.move 70 (ci 0))])
 ((.block 4 (.loop (.seq (.reg [.o (.bin 71 .lss (sl 70) (sl 69))])
 ((.seq (.cond (sl 71) .skip
 (.exit 4))
 ((.seq (.block 5 (.seq (.reg [.o (.move 72 (sl 70)),
 .o (.idx 73 5 (sl 68) (sl 70)),
 .o (.loadN 74 5 (sl 73)),
 .o (.alloc 12 [.v (.int .i64 0), .v (.int .i64 0), .v (.int .i64 0), .v (.int .i64 0), .v (.slice none 0 0)]),
 .o (.move 11 (sl 72)),
 .o (.store 5 (sl 12) (sl 74))])
 ((.seq (.reg [.o (.fld 75 4 (sl 12)),
 .o (.load1 76 (sl 75)),
 .o (.lenS 77 (sl 76)),
 .o (.move 78 (ci 0))])
 ((.block 6 (.loop (.seq (.reg [.o (.bin 79 .lss (sl 78) (sl 77))])
 ((.seq (.cond (sl 79) .skip
 (.exit 6))
 ((.seq (.block 7 (.seq (.reg [.o (.idx 80 1 (sl 76) (sl 78)),
 .o (.load1 81 (sl 80)),
 .o (.move 14 (sl 81))])
 ((.reg [.o (.move 82 (sl 7)),
 .o (.nilc 83 (sl 82)),
 .o (.fld 84 7 (sl 83)),
 .o (.load1 85 (sl 84)),
 .o (.move 86 (sl 14)),
 .o (.move 87 (sl 11)),
 .o (.idx 88 1 (sl 85) (sl 86)),
 .o (.store 1 (sl 88) (sl 87))]))))
 ((.reg [.o (.bin 89 .add (sl 78) (ci 1)),
 .o (.move 78 (sl 89))]))))))))))))))
 ((.reg [.o (.bin 90 .add (sl 70) (ci 1)),
 .o (.move 70 (sl 90))])))))))))))
 ((.seq (.reg [.o (.move 91 (sl 7)),
 .o (.move 6 (sl 91))])
 (.ret))))))))))
theorem q0ai {rin : List T} {args : List A} {Q : List T -> T -> Prop} (ha : args.length <= 92) (h : cW Try.prog 92 q03k (retP Try.prog [.tmp 6] rin.length Q) (St.of (enum 0 args) (enum 1000000000 rin))) :
    Fun Try.prog 179 rin args Q :=
  Fun.of (H := ⟨[], [9]⟩) Try.func179 rfl rfl rfl (by kernel_rfl) ha (by decide) h

def q13m : List Nd -> Int -> List Nd
  | [], _ => []
  | x :: l, k => ⟨k, k + 1, k + 2, k + 3, marks x.ch.length (k + 4)⟩ :: q13m l (k + 4 + x.ch.length)
def totN (l : List Nd) : Nat := l.length * 4 + tot (chs l)
theorem q13n : ∀ (l : List Nd) (k : Int), (q13m l k).length = l.length
  | [], _ => rfl
  | x :: l, k => by simp [q13m, q13n l]
theorem q13x (l l' : List Nd) : totN (l ++ l') = totN l + totN l' := by
  simp only [totN, chs, List.map_append, q140, List.length_append]; omega
theorem q13z (x : Nd) : totN [x] = 4 + x.ch.length := by simp [totN, chs, tot]
theorem q13o : ∀ (l : List Nd) (x : Nd) (k : Int), q13m (l ++ [x]) k = q13m l k ++ [⟨k + totN l, k + totN l + 1, k + totN l + 2, k + totN l + 3, marks x.ch.length (k + totN l + 4)⟩]
  | [], x, k => by simp [q13m, totN, chs, tot]
  | y :: l, x, k => by
    have e : totN (y :: l) = (4 + y.ch.length) + totN l := by rw [show y :: l = [y] ++ l from rfl, q13x, q13z]
    have e2 : k + 4 + (y.ch.length : Int) + (totN l : Int) = k + (totN (y :: l) : Int) := by rw [e]; omega
    simp only [List.cons_append, q13m]
    rw [q13o l x, e2]
theorem q13y : totN [] = 0 := rfl
theorem set4 : ∀ {A : List T} {n : Nat} (hA : A.length = n) (c0 c1 c2 c3 d0 d1 d2 d3 : T) (R : List T),
    ((((A ++ c0 :: c1 :: c2 :: c3 :: R).set n d0).set (n + 1) d1).set (n + 2) d2).set (n + 3) d3 = A ++ d0 :: d1 :: d2 :: d3 :: R
  | [], _, rfl, c0, c1, c2, c3, d0, d1, d2, d3, R => rfl
  | a :: A, _, rfl, c0, c1, c2, c3, d0, d1, d2, d3, R => by
    have ih := set4 (A := A) rfl c0 c1 c2 c3 d0 d1 d2 d3 R
    rw [List.length_cons, show A.length + 1 + 1 = (A.length + 1) + 1 from rfl, show A.length + 1 + 2 = (A.length + 2) + 1 by omega, show A.length + 1 + 3 = (A.length + 3) + 1 by omega]
    simp only [List.cons_append, List.set_cons_succ]
    rw [ih]
theorem get4 {A : List T} {n : Nat} (hA : A.length = n) (c0 c1 c2 c3 c4 : T) (R : List T) : (A ++ c0 :: c1 :: c2 :: c3 :: c4 :: R)[n + 4]? = some c4 := by
  rw [List.getElem?_append_right (by omega), hA, Nat.add_sub_cancel_left]; rfl
theorem put4 {A : List T} {n : Nat} (hA : A.length = n) (c0 c1 c2 c3 c4 d : T) (R : List T) : (A ++ c0 :: c1 :: c2 :: c3 :: c4 :: R).set (n + 4) d = A ++ c0 :: c1 :: c2 :: c3 :: d :: R := by
  rw [List.set_append_right _ _ (by omega), hA, Nat.add_sub_cancel_left]; rfl
section
attribute [-go_sem] q0i5 q0id fldC lenC idxC q0ip q0lp
theorem q13k (l : List Nd) (k : Int) (hl : l.length <= 1048576) (ht : tot (chs l) <= 1048576) (h0 : 0 <= k) (h1 : k <= 1000000000) :
    Fun Try.prog 166 [q0m0 l] [.own 1000000000, .t (.i k)] fun o r => o = [q0m0 (q13m l k)] /\ r = .i (k + totN l) := by
  refine q13b (by simp) ?_
  simp -implicitDefEqProofs only [go_sem, evR, ints, rows, rat, rats, q133, q0m0]
  refine SemC.loopR (σ := Nat) (fun i => St.of [(0, .own 1000000000), (1, .t (.i (k + totN (l.take i)))), (5, .t (.i i))] [(1000000000, .arr 5 (chunk q0lv (q13m (l.take i) k ++ l.drop i)))]) (fun i => i <= l.length) (fun i => l.length - i) 0 (Weak.of _ _ [some 1000000000] (by simp) (by simp) ?_ ?_) (by simp) fun i hi R hn hr he => ?_
  · simp -implicitDefEqProofs only [ints, rows, Nat.reduceBEq, wkR, Nat.reduceEqDiff, ↓reduceIte, wrR, List.take_zero, q13y, Int.add_zero]
  · exact ⟨⟨_, rfl, .refl _⟩, rfl, trivial⟩
  · have hlen : (chunk q0lv (q13m (l.take i) k ++ l.drop i)).length = l.length * 5 := by
      rw [q06d q0lw, List.length_append, q13n, List.length_take, List.length_drop]; congr 1; omega
    rcases Nat.lt_or_ge i l.length with h9 | h9
    · obtain ⟨y, hy⟩ : ∃ y, l[i]? = some y := ⟨_, List.getElem?_eq_getElem h9⟩
      have hd : l.drop i = y :: l.drop (i + 1) := q08a hy
      have hA : (chunk q0lv (q13m (l.take i) k)).length = i * 5 := by rw [q06d q0lw, q13n, List.length_take, Nat.min_eq_left (by omega)]
      have hch : chunk q0lv (q13m (l.take i) k ++ l.drop i) = chunk q0lv (q13m (l.take i) k) ++ (.i y.p :: .i y.a :: .i y.b :: .i y.f :: intsO y.ch :: chunk q0lv (l.drop (i + 1))) := by
        rw [q067, hd, q069]; rfl
      rw [hch] at hlen ⊢
      have htk : totN (l.take (i + 1)) = totN (l.take i) + (4 + y.ch.length) := by rw [q0uj hy, q13x, q13z]
      have htl : totN (l.take (i + 1)) <= totN l := by
        have e := q13x (l.take (i + 1)) (l.drop (i + 1))
        rw [List.take_append_drop] at e; omega
      have htn : totN l = l.length * 4 + tot (chs l) := rfl
      have hres : chunk q0lv (q13m (l.take (i + 1)) k ++ l.drop (i + 1)) = chunk q0lv (q13m (l.take i) k) ++ (.i (k + totN (l.take i)) :: .i (k + totN (l.take i) + 1) :: .i (k + totN (l.take i) + 2) :: .i (k + totN (l.take i) + 3) :: intsO (marks y.ch.length (k + totN (l.take i) + 4)) :: chunk q0lv (l.drop (i + 1))) := by
        rw [q0uj hy, q13o, List.append_assoc, q067, List.singleton_append, q069]; rfl
      have e1 : k + (totN (l.take (i + 1)) : Int) = k + (totN (l.take i) : Int) + 4 + (y.ch.length : Int) := by rw [htk]; omega
      generalize chunk q0lv (q13m (l.take i) k) = A at hlen hA hres ⊢
      generalize hK : k + (totN (l.take i) : Int) = K at hres e1 ⊢
      have w1 : IntKind.i64.wrap (K + 1) = K + 1 := wrap64 (by omega) (by omega)
      have w2 : IntKind.i64.wrap (K + 1 + 1) = K + 2 := by rw [wrap64 (by omega) (by omega)]; omega
      have w3 : IntKind.i64.wrap (K + 2 + 1) = K + 3 := by rw [wrap64 (by omega) (by omega)]; omega
      have w4 : IntKind.i64.wrap (K + 3 + 1) = K + 4 := by rw [wrap64 (by omega) (by omega)]; omega
      have hiI : (i : Int) < (l.length : Int) := by omega
      have h5 : l.length * 5 / 5 = l.length := by omega
      have hlG : ∀ c0 c1 c2 c3 c4, (A ++ c0 :: c1 :: c2 :: c3 :: c4 :: chunk q0lv (l.drop (i + 1))).length = l.length * 5 := fun c0 c1 c2 c3 c4 => by
        rw [← hlen]; simp only [List.length_append, List.length_cons]
      simp -implicitDefEqProofs only [go_sem, evR, ints, rows, rat, rats, hlG, h5, hiI, set4 hA, get4 hA, w1, w2, w3, w4, intsO]
      refine ⟨by omega, by omega, by omega, by omega, by omega, by omega, by omega, by omega, by omega, by omega, by omega, by omega, by omega, by omega, by omega, ?_⟩
      refine q006.ref (q13j y.ch (K + 4) (by omega) (by omega) (by omega)) [44] [] rfl Try.call49 (by simp) ?_ (by simp) ?_ (.inl rfl) ?_
      · simp -implicitDefEqProofs only [srR, Nat.reduceEqDiff, ↓reduceIte, ints, rows, intsO, q0qa]
      · simp -implicitDefEqProofs only [agR, Nat.reduceLeDiff, Nat.reduceSub, vaR, go_sem, ints, rows, rat, rats, q0p1, rtR, intsO, q0qa]
      simp -implicitDefEqProofs only [clR, Nat.reduceLeDiff, go_sem, evR, rat, intsO]
      refine hn _ (i + 1) (Weak.trans (Weak.close1 1000000000 (i * 5 + 4) 44 rfl rfl (by decide) ?_) (Weak.of _ _ [some 1000000000] (by simp) (by simp) ?_ ?_)) (by omega) (by omega)
      · simp [put4 hA, get4 hA]
      · simp -implicitDefEqProofs only [ints, rows, Nat.reduceBEq, wkR, Nat.reduceEqDiff, ↓reduceIte, wrR, e1, q0lb (show i < l.length by omega) (by omega : l.length <= 1000000000000)]
      · refine ⟨⟨_, rfl, ?_⟩, rfl, trivial⟩
        rw [hres, List.set_set, put4 hA]
        exact .refl _
    · have hil : i = l.length := by omega
      subst hil
      have hiI : ¬ (l.length : Int) < (l.length : Int) := by omega
      have h5 : l.length * 5 / 5 = l.length := by omega
      simp -implicitDefEqProofs only [go_sem, evR, ints, rows, rat, rats, hlen, h5, hiI]
      refine he _ _ ?_
      simp -implicitDefEqProofs only [go_sem, evR, ints, rows, rat, rats]
      rw [List.take_of_length_le (Nat.le_refl _), List.drop_of_length_le (Nat.le_refl _), List.append_nil]
      exact ⟨rfl, rfl⟩
theorem q13l (l : List Nd) (k : Int) (hl : l.length <= 1048576) (ht : tot (chs l) <= 1048576) (h0 : 0 <= k) (h1 : k <= 1000000000) :
    Fun Try.prog 102 [q0m0 l] [.agg [.own 1000000000], .t (.i k)] fun o r => o = [q0m0 (q13m l k)] /\ r = .i (k + totN l) := by
  refine q13c (by simp) ?_
  simp -implicitDefEqProofs only [go_sem, evR, ints, rows, rat, rats, q134, q0m0, List.lookup_cons, beq_self_eq_true, Nat.reduceBEq]
  have hp := q13k l k hl ht h0 h1
  simp only [q0m0] at hp
  refine q006.ref hp [1000000000] [] rfl Try.call166 (by simp) ?_ (by simp) ?_ (.inl rfl) ?_
  · simp -implicitDefEqProofs only [srR, Nat.reduceEqDiff, ↓reduceIte, ints, rows, intsO, q0qa]
  · simp -implicitDefEqProofs only [agR, Nat.reduceLeDiff, Nat.reduceSub, vaR, go_sem, ints, rows, rat, rats, q0p1, rtR, intsO, q0qa]
  simp -implicitDefEqProofs only [clR, Nat.reduceLeDiff, go_sem, evR, rat]
def totG (g : Gm) : Nat := totN g.nd + tot g.w + tot g.v
theorem q13w {g : Gm} (h : q0ch g) : totG g <= 8388608 := by
  have h1 := h.1.1
  rw [q065] at h1
  have h2 := h.1.2
  have h3 := h.2.1.2
  have h4 := h.2.2.2
  unfold totG totN; omega
theorem q13h (g : Gm) (k : Int) (hg : q0ch g) (h0 : 0 <= k) (h1 : k <= 100000000) :
    Fun Try.prog 26 [q0m0 g.nd, q0qa g.w, q0qa g.v] [.agg [.own 1000000000, .own 1000000001, .own 1000000002], .t (.i k)] fun o r => o = [q0m0 (q13m g.nd k), q0qa (q13p g.w (k + totN g.nd)), q0qa (q13p g.v (k + totN g.nd + tot g.w))] /\ r = .i (k + totG g) := by
  have hl := hg.1.1
  rw [q065] at hl
  have h2 := hg.1.2
  have h3 := hg.2.1
  have h4 := hg.2.2
  have hN : totN g.nd <= 5242880 := by unfold totN; omega
  have h31 := h3.1
  have h32 := h3.2
  have h41 := h4.1
  have h42 := h4.2
  refine q138 (by simp) ?_
  simp -implicitDefEqProofs only [go_sem, evR, ints, rows, rat, rats, q130, q0m0, q0qa, List.lookup_cons, beq_self_eq_true, Nat.reduceBEq, noLk, q0pd, q0p8]
  have hp := q13l g.nd k hl h2 h0 (by omega)
  have hp2 := q13i g.w (k + totN g.nd) (by omega) (by omega) (by omega) (by omega)
  have hp3 := q13i g.v (k + totN g.nd + tot g.w) (by omega) (by omega) (by omega) (by omega)
  simp only [q0m0, q0qa] at hp hp2 hp3
  refine q006.ref hp [1000000000] [] rfl Try.call102 (by simp) ?_ (by simp) ?_ (.inl rfl) ?_
  · simp -implicitDefEqProofs only [srR, Nat.reduceEqDiff, ↓reduceIte, ints, rows, intsO, q0qa]
  · simp -implicitDefEqProofs only [agR, Nat.reduceLeDiff, Nat.reduceSub, vaR, go_sem, ints, rows, rat, rats, q0p1, rtR, intsO, q0qa]
  simp -implicitDefEqProofs only [clR, Nat.reduceLeDiff, go_sem, evR, rat, List.lookup_cons, beq_self_eq_true, Nat.reduceBEq, noLk, q0pd, q0p8]
  refine q006.ref hp2 [1000000001] [] rfl Try.call27 (by simp) ?_ (by simp) ?_ (.inl rfl) ?_
  · simp -implicitDefEqProofs only [srR, Nat.reduceEqDiff, ↓reduceIte, ints, rows, intsO, q0qa]
  · simp -implicitDefEqProofs only [agR, Nat.reduceLeDiff, Nat.reduceSub, vaR, go_sem, ints, rows, rat, rats, q0p1, rtR, intsO, q0qa]
  simp -implicitDefEqProofs only [clR, Nat.reduceLeDiff, go_sem, evR, rat, List.lookup_cons, beq_self_eq_true, Nat.reduceBEq, noLk, q0pd, q0p8]
  refine q006.ref hp3 [1000000002] [] rfl Try.call27 (by simp) ?_ (by simp) ?_ (.inl rfl) ?_
  · simp -implicitDefEqProofs only [srR, Nat.reduceEqDiff, ↓reduceIte, ints, rows, intsO, q0qa]
  · simp -implicitDefEqProofs only [agR, Nat.reduceLeDiff, Nat.reduceSub, vaR, go_sem, ints, rows, rat, rats, q0p1, rtR, intsO, q0qa]
  simp -implicitDefEqProofs only [clR, Nat.reduceLeDiff, go_sem, evR, rat]
  exact congrArg T.i (by unfold totG; omega)
end
theorem q13f (n : Nat) (k : Int) (hn : n <= 1048576) (h0 : 0 <= k) (h1 : k <= 100000000000) : Pure Try.prog 50 [ints (marks n k), .i k] (.i (k + n)) := by
  have := q13g (marks n k) k (by rw [q13s]; omega) h0 (by omega)
  rw [q13d n k] at this
  exact this
end Go.Ab

/- Games as data: parents; values over the first children; bounds of values. -/
namespace Go.Ab

def parN (l : List Nd) : Nat -> List Int
  | 0 => List.replicate l.length 0
  | i + 1 => (l.getD i nd0).ch.foldl (fun P (c : Int) => P.set c.toNat (i : Int)) (parN l i)
theorem q0z9 (i : Int) : ∀ (cs : List Int) (P : List Int), (cs.foldl (fun P (c : Int) => P.set c.toNat i) P).length = P.length
  | [], P => rfl
  | c :: cs, P => by rw [List.foldl_cons, q0z9 i cs]; simp
theorem q112 (l : List Nd) : ∀ i, (parN l i).length = l.length
  | 0 => by simp [parN]
  | i + 1 => by rw [parN, q0z9, q112 l i]
def valK (g : Gm) (s t : List (List Int)) (f a b p : Nat) (q ch : List Int) (k : Nat) : Int := sumI ((List.zipWith (fun x c => x * val g s t f c.toNat a b p) q ch).take k)
theorem q12n {g : Gm} {s t : List (List Int)} {f a b p : Nat} {q ch : List Int} {k : Nat} {x c : Int} (hx : q[k]? = some x) (hc : ch[k]? = some c) : valK g s t f a b p q ch (k + 1) = valK g s t f a b p q ch k + x * val g s t f c.toNat a b p := by
  unfold valK
  have h : (List.zipWith (fun x c => x * val g s t f c.toNat a b p) q ch)[k]? = some (x * val g s t f c.toNat a b p) := by
    rw [List.getElem?_zipWith, hx, hc]
  rw [List.take_add_one, h, Option.toList_some, q0u7]
theorem q12o {g : Gm} {s t : List (List Int)} (hnd : q0l2 g.nd) (hs : q0nw g s 0) (ht : q0nw g t 1) {a b : Nat} (ha : a < g.w.length) (hb : b < g.w.length) : ∀ (f i p : Nat), i < g.nd.length -> dep g.nd f i <= p -> -(100 * pw p) <= val g s t f i a b p /\ val g s t f i a b p <= 100 * pw p
  | 0, i, p, _, _ => by
    have := q0ok p
    simp only [val]; omega
  | f + 1, i, p, hi, hd => by
    have hpp := q0ok p
    rw [val]
    (try simp only [])
    by_cases h2 : (g.nd.getD i nd0).p = 2
    · rw [if_pos h2]
      obtain ⟨q1, q2⟩ := q0o0 hnd i a b
      have e1 := Int.mul_le_mul_of_nonneg_right q1 (Int.le_of_lt hpp)
      have e2 := Int.mul_le_mul_of_nonneg_right q2 (Int.le_of_lt hpp)
      rw [Int.neg_mul] at e1
      exact ⟨e1, e2⟩
    · rw [if_neg h2]
      obtain ⟨d1, d2⟩ := q07w (f := f) h2
      have hx : g.nd[i]? = some (g.nd.getD i nd0) := by rw [List.getD_eq_getElem?_getD, List.getElem?_eq_getElem hi]; rfl
      have hch := q0kp (hnd i _ hx)
      obtain ⟨p', rfl⟩ : ∃ p', p = p' + 1 := ⟨p - 1, by omega⟩
      obtain ⟨q, hq, hql, hq0, hqs⟩ : ∃ q, (if (g.nd.getD i nd0).p = 0 then partsOf g s 0 i a else partsOf g t 1 i b) = q /\ q.length = (g.nd.getD i nd0).ch.length /\ (∀ x ∈ q, 0 <= x /\ x <= 60) /\ sumI q = 60 := by
        by_cases h0 : (g.nd.getD i nd0).p = 0
        · rw [if_pos h0]
          obtain ⟨m1, m2, m3⟩ := hs i a hi ha h0
          exact ⟨_, rfl, m1, m2, m3⟩
        · rw [if_neg h0]
          obtain ⟨⟨r1, r2⟩, _⟩ := q0ks (hnd i _ hx)
          obtain ⟨m1, m2, m3⟩ := ht i b hi hb (by omega)
          exact ⟨_, rfl, m1, m2, m3⟩
      rw [hq, q12x _ _ _ hql, Nat.add_sub_cancel]
      have hb := q0tw (l := List.range (g.nd.getD i nd0).ch.length) (F := fun k => q.getD k 0 * val g s t f ((g.nd.getD i nd0).ch.getD k 0).toNat a b p') (G := fun k => (100 * pw p') * q.getD k 0) fun k hk => by
        have hk := List.mem_range.1 hk
        have hmem : (g.nd.getD i nd0).ch.getD k 0 ∈ (g.nd.getD i nd0).ch := q0cq 0 hk
        have h1 := hch _ hmem
        have h3 := d2 _ hmem
        have ih := q12o hnd hs ht ha hb f ((g.nd.getD i nd0).ch.getD k 0).toNat p' (by omega) (by omega)
        have hqk := hq0 _ (q0cq 0 (show k < q.length by omega))
        obtain ⟨m1, m2⟩ := q0kl hqk.1 ih.1 ih.2
        exact ⟨m1, m2⟩
      rw [q0u2, ← hql, q0jh, hqs] at hb
      rw [hql] at hb
      have e : 100 * pw (p' + 1) = 100 * pw p' * 60 := by rw [q0ol]; omega
      rw [e]; exact hb
end Go.Ab

/- Games as data: parents of nodes, ways to them, and products along a way. -/
namespace Go.Ab

def ixOf (x : Int) : List Int -> Nat
  | [] => 0
  | y :: l => if y = x then 0 else ixOf x l + 1
theorem q109 {x : Int} : ∀ {l : List Int}, x ∈ l -> l[ixOf x l]? = some x
  | [], h => by simp at h
  | y :: l, h => by
    by_cases hy : y = x
    · rw [ixOf, if_pos hy, hy]; rfl
    · rw [ixOf, if_neg hy, List.getElem?_cons_succ]
      exact q109 ((List.mem_cons.1 h).resolve_left fun e => hy e.symm)
theorem q108 {x : Int} : ∀ {l : List Int} {k : Nat}, k < ixOf x l -> l[k]? ≠ some x
  | [], k, h => by simp [ixOf] at h
  | y :: l, k, h => by
    by_cases hy : y = x
    · rw [ixOf, if_pos hy] at h; omega
    · rw [ixOf, if_neg hy] at h
      cases k with
      | zero => simpa using hy
      | succ k => rw [List.getElem?_cons_succ]; exact q108 (by omega)
theorem q10a {x : Int} : ∀ {l : List Int} {k : Nat}, l[k]? = some x -> ixOf x l <= k := fun {l k} h => by
  rcases Nat.lt_or_ge k (ixOf x l) with h1 | h1
  · exact absurd h (q108 h1)
  · exact h1
theorem q0z8 {i : Int} {j : Nat} : ∀ (cs : List Int) (P : List Int), (∀ c ∈ cs, 0 <= c) -> j < P.length -> (cs.foldl (fun P (c : Int) => P.set c.toNat i) P)[j]? = if (j : Int) ∈ cs then some i else P[j]?
  | [], P, _, _ => by simp
  | c :: cs, P, h0, hj => by
    rw [List.foldl_cons, q0z8 cs (P.set c.toNat i) (fun x hx => h0 x (by simp [hx])) (by rw [List.length_set]; exact hj)]
    have hc := h0 c (by simp)
    by_cases h1 : (j : Int) ∈ cs
    · rw [if_pos h1, if_pos (by simp [h1])]
    · rw [if_neg h1, List.getElem?_set]
      by_cases h2 : (j : Int) = c
      · have e1 : (j : Int) ∈ c :: cs := by simp [h2]
        rw [if_pos e1, if_pos (show c.toNat = j by omega), if_pos (show c.toNat < P.length by omega)]
      · have e1 : ¬ (j : Int) ∈ c :: cs := by simp [h1, h2]
        rw [if_neg e1, if_neg (show ¬ c.toNat = j by omega)]
theorem q10c {l : List Nd} (h : q0l2 l) {n j : Nat} (hn : n < l.length) (hm : (j : Int) ∈ (l.getD n nd0).ch) : q107 l n j := by
  refine ⟨hn, fun hp => ?_, hm⟩
  have hx : l[n]? = some (l.getD n nd0) := by rw [List.getD_eq_getElem?_getD, List.getElem?_eq_getElem hn]; rfl
  obtain ⟨_, _, _, h4, _⟩ := q0ks (h n _ hx)
  rw [(h4 hp).1] at hm; simp at hm
def q10t (l : List Nd) : Prop := ∀ i, i < l.length -> i = 0 ∨ occ i l = 1
theorem q111 {l : List Nd} (h : q0l2 l) (ho : q10t l) {i j : Nat} (hk : q107 l i j) : ∀ n, n <= l.length -> i < n -> (parN l n)[j]? = some (i : Int)
  | 0, _, hi => absurd hi (by omega)
  | n + 1, hn, hi => by
    have hx : l[n]? = some (l.getD n nd0) := by rw [List.getD_eq_getElem?_getD, List.getElem?_eq_getElem (show n < l.length by omega)]; rfl
    have hc := q0kp (h n _ hx)
    rw [parN, q0z8 _ _ (fun c hc' => by have := hc c hc'; omega) (by rw [q112]; exact (q10b h hk).2)]
    by_cases hm : (j : Int) ∈ (l.getD n nd0).ch
    · rw [if_pos hm, q10d h ho hk (q10c h (by omega) hm)]
    · rw [if_neg hm]
      have : i ≠ n := fun e => hm (e ▸ hk.2.2)
      exact q111 h ho hk n (by omega) (by omega)
def upN (l : List Nd) (j : Nat) : Nat := ((parN l l.length).getD j 0).toNat
theorem q12j {l : List Nd} (h : q0l2 l) (ho : q10t l) {i j : Nat} (hk : q107 l i j) : upN l j = i := by
  unfold upN
  rw [List.getD_eq_getElem?_getD, q111 h ho hk l.length (Nat.le_refl _) hk.1]
  simp
theorem q10e {l : List Nd} (h : q0l2 l) (ho : q10t l) {j : Nat} (h0 : 0 < j) (hj : j < l.length) : q107 l (upN l j) j := by
  obtain ⟨i, hk⟩ := q10w (c := j) (l := l) (by have := (ho j hj).resolve_left (by omega); omega)
  rw [q12j h ho hk]; exact hk
theorem q113 {l : List Nd} (h : q0l2 l) (ho : q10t l) {j : Nat} (h0 : 0 < j) (hj : j < l.length) : (parN l l.length)[j]? = some ((upN l j : Nat) : Int) := by
  have hk := q10e h ho h0 hj
  exact q111 h ho hk _ (Nat.le_refl _) hk.1
theorem q12k {l : List Nd} (h : q0l2 l) (ho : q10t l) {j : Nat} (h0 : 0 < j) (hj : j < l.length) : upN l j < j := (q10b h (q10e h ho h0 hj)).1
def plc (l : List Nd) (j : Nat) : Nat := ixOf (j : Int) (l.getD (upN l j) nd0).ch
theorem q118 {l : List Nd} (h : q0l2 l) (ho : q10t l) {j : Nat} (h0 : 0 < j) (hj : j < l.length) : (l.getD (upN l j) nd0).ch[plc l j]? = some (j : Int) := q109 (q10e h ho h0 hj).2.2

def wayF (l : List Nd) : Nat -> Nat -> List Int
  | 0, _ => []
  | f + 1, j => if j = 0 then [] else wayF l f (upN l j) ++ [(plc l j : Int)]
def ancF (l : List Nd) : Nat -> Nat -> List Nat
  | 0, j => [j]
  | f + 1, j => if j = 0 then [0] else ancF l f (upN l j) ++ [j]
def wayL (l : List Nd) (j : Nat) : List Int := wayF l j j
def ancL (l : List Nd) (j : Nat) : List Nat := ancF l j j
theorem q12p {l : List Nd} (h : q0l2 l) (ho : q10t l) : ∀ (f f' j : Nat), j < l.length -> j <= f -> j <= f' -> wayF l f j = wayF l f' j /\ ancF l f j = ancF l f' j
  | 0, 0, j, _, _, _ => ⟨rfl, rfl⟩
  | 0, f' + 1, j, _, h1, _ => by obtain rfl : j = 0 := by omega
                                 exact ⟨rfl, rfl⟩
  | f + 1, 0, j, _, _, h1 => by obtain rfl : j = 0 := by omega
                                exact ⟨rfl, rfl⟩
  | f + 1, f' + 1, j, hj, h1, h2 => by
    rw [wayF, wayF, ancF, ancF]
    by_cases hz : j = 0
    · rw [if_pos hz, if_pos hz, if_pos hz, if_pos hz]; exact ⟨rfl, rfl⟩
    · rw [if_neg hz, if_neg hz, if_neg hz, if_neg hz]
      have hu := q12k h ho (by omega) hj
      obtain ⟨e1, e2⟩ := q12p h ho f f' (upN l j) (by omega) (by omega) (by omega)
      rw [e1, e2]; exact ⟨rfl, rfl⟩
theorem q12w (l : List Nd) : wayL l 0 = [] := rfl
theorem q12v {l : List Nd} (h : q0l2 l) (ho : q10t l) {j : Nat} (h0 : 0 < j) (hj : j < l.length) : wayL l j = wayL l (upN l j) ++ [(plc l j : Int)] := by
  have hu := q12k h ho h0 hj
  obtain ⟨j, rfl⟩ : ∃ k, j = k + 1 := ⟨j - 1, by omega⟩
  unfold wayL
  rw [wayF, if_neg (by omega), (q12p h ho j (upN l (j + 1)) (upN l (j + 1)) (by omega) (by omega) (Nat.le_refl _)).1]
theorem q0y4 {l : List Nd} (h : q0l2 l) (ho : q10t l) {j : Nat} (h0 : 0 < j) (hj : j < l.length) : ancL l j = ancL l (upN l j) ++ [j] := by
  have hu := q12k h ho h0 hj
  obtain ⟨j, rfl⟩ : ∃ k, j = k + 1 := ⟨j - 1, by omega⟩
  unfold ancL
  rw [ancF, if_neg (by omega), (q12p h ho j (upN l (j + 1)) (upN l (j + 1)) (by omega) (by omega) (Nat.le_refl _)).2]
theorem q0y3 {l : List Nd} (h : q0l2 l) (ho : q10t l) : ∀ (f j : Nat), j <= f -> j < l.length -> (ancL l j).length = (wayL l j).length + 1 /\ (ancL l j)[0]? = some 0 /\ (ancL l j)[(wayL l j).length]? = some j /\ ∀ i, i < (wayL l j).length -> ∃ m, (ancL l j)[i + 1]? = some m /\ 0 < m /\ m < l.length /\ (ancL l j)[i]? = some (upN l m) /\ (wayL l j)[i]? = some (plc l m : Int)
  | 0, j, h1, hj => by
    obtain rfl : j = 0 := by omega
    refine ⟨rfl, rfl, rfl, fun i hi => ?_⟩
    rw [q12w] at hi; simp at hi
  | f + 1, j, h1, hj => by
    by_cases hz : j = 0
    · subst hz
      refine ⟨rfl, rfl, rfl, fun i hi => ?_⟩
      rw [q12w] at hi; simp at hi
    · have hu := q12k h ho (by omega) hj
      obtain ⟨i1, i2, i3, i4⟩ := q0y3 h ho f (upN l j) (by omega) (by omega)
      rw [q12v h ho (by omega) hj, q0y4 h ho (by omega) hj]
      refine ⟨by simp [i1], by rw [List.getElem?_append_left (by omega)]; exact i2, by rw [List.getElem?_append_right (by simp; omega)]; simp [i1], fun i hi => ?_⟩
      rw [List.length_append, List.length_cons, List.length_nil] at hi
      rcases Nat.lt_or_ge i (wayL l (upN l j)).length with h9 | h9
      · obtain ⟨m, m1, m2, m3, m4, m5⟩ := i4 i h9
        exact ⟨m, by rw [List.getElem?_append_left (by omega)]; exact m1, m2, m3, by rw [List.getElem?_append_left (by omega)]; exact m4, by rw [List.getElem?_append_left (by omega)]; exact m5⟩
      · obtain rfl : i = (wayL l (upN l j)).length := by omega
        refine ⟨j, by rw [List.getElem?_append_right (by omega)]; simp [i1], by omega, hj, by rw [List.getElem?_append_left (by omega)]; exact i3, by rw [List.getElem?_append_right (by omega)]; simp⟩
theorem q12u {l : List Nd} (h : q0l2 l) (ho : q10t l) : ∀ (f j : Nat), j <= f -> j < l.length -> ((wayL l j).length : Int) + dep l l.length j <= dep l l.length 0
  | 0, j, h1, hj => by
    obtain rfl : j = 0 := by omega
    rw [q12w]; simp
  | f + 1, j, h1, hj => by
    by_cases hz : j = 0
    · subst hz; rw [q12w]; simp
    · have hk := q10e h ho (by omega) hj
      have hu := q10b h hk
      have ih := q12u h ho f (upN l j) (by omega) (by omega)
      rw [q12v h ho (by omega) hj, List.length_append, List.length_cons, List.length_nil]
      obtain ⟨F, hF⟩ : ∃ F, l.length = F + 1 := ⟨l.length - 1, by omega⟩
      have hd := (q07w (l := l) (f := F) (i := upN l j) hk.2.1).2 _ hk.2.2
      rw [← hF, Int.toNat_natCast, q07y h F l.length j (by omega) (by omega)] at hd
      omega
def wayQ (g : Gm) (S : List (List Int)) (pl : Int) (c : Nat) : Nat -> Nat -> Int
  | 0, _ => 1
  | f + 1, j => if j = 0 then 1 else wayQ g S pl c f (upN g.nd j) * (if (g.nd.getD (upN g.nd j) nd0).p = pl then (partsOf g S pl (upN g.nd j) c).getD (plc g.nd j) 0 else 1)
def wayP (g : Gm) (S : List (List Int)) (pl : Int) (c j : Nat) : Int := wayQ g S pl c j j
theorem q12t {g : Gm} {S : List (List Int)} {pl : Int} {c : Nat} (h : q0l2 g.nd) (ho : q10t g.nd) : ∀ (f f' j : Nat), j < g.nd.length -> j <= f -> j <= f' -> wayQ g S pl c f j = wayQ g S pl c f' j
  | 0, 0, j, _, _, _ => rfl
  | 0, f' + 1, j, _, h1, _ => by obtain rfl : j = 0 := by omega
                                 rfl
  | f + 1, 0, j, _, _, h1 => by obtain rfl : j = 0 := by omega
                                rfl
  | f + 1, f' + 1, j, hj, h1, h2 => by
    rw [wayQ, wayQ]
    by_cases hz : j = 0
    · rw [if_pos hz, if_pos hz]
    · have hu := q12k h ho (by omega) hj
      rw [if_neg hz, if_neg hz, q12t h ho f f' (upN g.nd j) (by omega) (by omega) (by omega)]
theorem q12s (g : Gm) (S : List (List Int)) (pl : Int) (c : Nat) : wayP g S pl c 0 = 1 := rfl
theorem q12r {g : Gm} {S : List (List Int)} {pl : Int} {c : Nat} (h : q0l2 g.nd) (ho : q10t g.nd) {j : Nat} (h0 : 0 < j) (hj : j < g.nd.length) : wayP g S pl c j = wayP g S pl c (upN g.nd j) * (if (g.nd.getD (upN g.nd j) nd0).p = pl then (partsOf g S pl (upN g.nd j) c).getD (plc g.nd j) 0 else 1) := by
  have hu := q12k h ho h0 hj
  obtain ⟨j, rfl⟩ : ∃ k, j = k + 1 := ⟨j - 1, by omega⟩
  unfold wayP
  rw [wayQ, if_neg (by omega), q12t h ho j (upN g.nd (j + 1)) (upN g.nd (j + 1)) (by omega) (by omega) (Nat.le_refl _)]
theorem q114 {g : Gm} {S : List (List Int)} {pl : Int} (hS : q0nw g S pl) {i c : Nat} (hi : i < g.nd.length) (hc : c < g.w.length) (hp : (g.nd.getD i nd0).p = pl) (k : Nat) : 0 <= (partsOf g S pl i c).getD k 0 /\ (partsOf g S pl i c).getD k 0 <= 60 := by
  obtain ⟨_, h2, _⟩ := hS i c hi hc hp
  rw [List.getD_eq_getElem?_getD]
  cases hx : (partsOf g S pl i c)[k]? with
  | none => simp
  | some x => exact h2 x (List.mem_of_getElem? hx)
theorem q12q {g : Gm} {S : List (List Int)} {pl : Int} {c : Nat} (h : q0l2 g.nd) (ho : q10t g.nd) (hS : q0nw g S pl) (hc : c < g.w.length) : ∀ (f j : Nat), j <= f -> j < g.nd.length -> 0 <= wayP g S pl c j /\ wayP g S pl c j <= pw (wayL g.nd j).length
  | 0, j, h1, hj => by
    obtain rfl : j = 0 := by omega
    rw [q12s, q12w]; decide
  | f + 1, j, h1, hj => by
    by_cases hz : j = 0
    · subst hz; rw [q12s, q12w]; decide
    · have hu := q12k h ho (by omega) hj
      obtain ⟨b1, b2⟩ := q12q h ho hS hc f (upN g.nd j) (by omega) (by omega)
      rw [q12r h ho (by omega) hj, q12v h ho (by omega) hj, List.length_append, List.length_cons, List.length_nil, q0ol, Int.mul_comm 60]
      have hb : 0 <= (if (g.nd.getD (upN g.nd j) nd0).p = pl then (partsOf g S pl (upN g.nd j) c).getD (plc g.nd j) 0 else 1) /\ (if (g.nd.getD (upN g.nd j) nd0).p = pl then (partsOf g S pl (upN g.nd j) c).getD (plc g.nd j) 0 else 1) <= 60 := by
        split
        · rename_i hp
          exact q114 hS (by omega) hc hp _
        · decide
      exact ⟨Int.mul_nonneg b1 hb.1, Int.mul_le_mul b2 hb.2 hb.1 (by have := q0ok (wayL g.nd (upN g.nd j)).length; omega)⟩
end Go.Ab

/- Contracts: parts, the reference's. -/
namespace Go.Ab
open Go.Proofs

theorem q0op {t : Int} {w : List Int} {i : Nat} {x : Int} (h : w[i]? = some x) : quoL t (w.take (i + 1)) = quoL t (w.take i) ++ [60 * x / t] := by rw [q0uj h]; simp [quoL]
theorem q0pf {t : Int} {w : List Int} {i : Nat} {x : Int} (h : w[i]? = some x) : remL t (w.take (i + 1)) = remL t (w.take i) ++ [60 * x % t] := by rw [q0uj h]; simp [remL]
def q0xj (w : List Int) : Prop := 1 <= w.length /\ w.length <= 4 /\ ∀ x ∈ w, 0 <= x /\ x <= 1000000000
theorem q0xk {w : List Int} (h : q0xj w) : q0rv w := ⟨by have := h.2.1; omega, fun x hx => by have := h.2.2 x hx; omega⟩
theorem q0oq {w : List Int} (h : q0xj w) (ht : 0 < w.sum) : q0rv (quoL w.sum w) := by
  refine ⟨by have := h.2.1; simp [quoL]; omega, fun y hy => ?_⟩
  obtain ⟨x, hx, rfl⟩ := List.mem_map.1 hy
  have hb := h.2.2 x hx
  have h1 := Int.ediv_nonneg (a := 60 * x) (b := w.sum) (by omega) (by omega)
  have h2 : 60 * x / w.sum <= 60 * x := Int.ediv_le_self _ (by omega)
  omega
theorem HamI.small {w : List Int} {t : Int} {m : Nat} {p r : List Int} (h : HamI w t m p r) (ht : 0 < t) {i : Nat} (hi : i < w.length) (hw : 0 <= w.getD i 0 /\ w.getD i 0 <= 1000000000) : 0 <= p.getD i 0 /\ p.getD i 0 <= 100000000000 := by
  have key : -t < t * p.getD i 0 /\ t * p.getD i 0 < 60 * w.getD i 0 + t := by
    rcases h.each i hi with h1 | h1 <;> omega
  refine ⟨?_, ?_⟩
  · have h1 : t * (-1) < t * p.getD i 0 := by omega
    have := Int.lt_of_mul_lt_mul_left h1 (by omega)
    omega
  · have h1 := Int.mul_le_mul_of_nonneg_right (show (1 : Int) <= t by omega) (show 0 <= 60 * w.getD i 0 by omega)
    have h2 : t * p.getD i 0 < t * (60 * w.getD i 0 + 1) := by rw [Int.mul_add, Int.mul_one]; omega
    have := Int.lt_of_mul_lt_mul_left h2 (by omega)
    omega
theorem q0sh (w : List Int) (hw : q0xj w) (ht : 0 < w.sum) : Fun Try.prog 172 [] [.t (ints w)] fun o r => o = [] /\ r = intsO (ham1 w) := by
  have hs := q0xk hw
  have hsum : w.sum <= 1000000000000000 := by have := q0rw hs w.length; rw [List.take_length] at this; omega
  obtain ⟨hw1, hw2, hw3⟩ := hw
  refine q0bw (by simp) ?_
  simp -implicitDefEqProofs only [go_sem, evR, ints, rows, rat, rats, q04y]
  refine q006.pure (q0s7 w hs) [] rfl Try.call187 ?_ (by first | trivial | simp [T.noSh, T.noShL, rat]) rfl ?_
  · simp -implicitDefEqProofs only [agR, Nat.reduceLeDiff, Nat.reduceSub, vaR, go_sem, ints, rows, rat, rats, q0p1, rtR, intsO, q0qa]
  simp -implicitDefEqProofs only [go_sem, evR, ints, rows, rat, rats]
  refine ⟨fun h => absurd h (by simp; omega), fun _ => ?_⟩
  refine SemC.loopR (σ := Nat) (fun i => St.of [(0, .t (ints w)), (3, .t (.i w.sum)), (6, .own 95), (7, .own 96), (8, .t (.i i))] [(95, .arr 1 ((quoL w.sum (w.take i)).map T.i)), (96, .arr 1 ((remL w.sum (w.take i)).map T.i))]) (fun i => i <= w.length) (fun i => w.length - i) 0 (Weak.of _ _ [some 28, some 29] (by simp) (by simp) ?_ ?_) (by omega) fun i hi R hn hr he => ?_
  · simp -implicitDefEqProofs only [ints, rows, Nat.reduceBEq, wkR, Nat.reduceEqDiff, ↓reduceIte, wrR]
  · exact ⟨⟨_, rfl, .refl _⟩, rfl, ⟨_, rfl, .refl _⟩, rfl, trivial⟩
  · simp -implicitDefEqProofs only [go_sem, evR, ints, rows, rat, rats]
    refine ⟨fun h => ⟨by omega, by omega, by omega, fun x hx => ?_⟩, fun h => he _ _ ?_⟩
    · have hxb := hw3 x (List.mem_of_getElem? hx)
      have hq1 := Int.ediv_nonneg (a := 60 * x) (b := w.sum) (by omega) (by omega)
      have hq2 : 60 * x / w.sum <= 60 * x := Int.ediv_le_self _ (by omega)
      have hr1 := Int.emod_nonneg (60 * x) (show w.sum ≠ 0 by omega)
      have hr2 := Int.emod_lt_of_pos (60 * x) ht
      have e1 : IntKind.i64.wrap ((IntKind.i64.wrap (60 * x)).tdiv w.sum) = 60 * x / w.sum := by
        rw [wrap64 (n := 60 * x) (by omega) (by omega), Int.tdiv_eq_ediv_of_nonneg (by omega), wrap64 (by omega) (by omega)]
      have e2 : (IntKind.i64.wrap (60 * x)).tmod w.sum = 60 * x % w.sum := by
        rw [wrap64 (n := 60 * x) (by omega) (by omega), Int.tmod_eq_emod_of_nonneg (by omega)]
      simp only [e1]
      refine ⟨by omega, by rw [quoL, List.length_map, List.length_take]; omega, by omega, by omega, by omega, fun x' hx' => ?_⟩
      rw [hx] at hx'; cases hx'
      simp only [e2]
      refine ⟨by omega, by rw [remL, List.length_map, List.length_take]; omega, ?_⟩
      refine hn _ (i + 1) (Weak.of _ _ [some 45, some 55] (by simp) (by simp) ?_ ?_) (by omega) (by omega)
      · simp -implicitDefEqProofs only [ints, rows, Nat.reduceBEq, wkR, Nat.reduceEqDiff, ↓reduceIte, wrR, q0lb (by omega : i < w.length) (by omega)]
      · refine ⟨⟨_, rfl, ?_⟩, rfl, ⟨_, rfl, ?_⟩, rfl, trivial⟩
        · rw [q0op hx, List.map_append]; exact .refl _
        · rw [q0pf hx, List.map_append]; exact .refl _
    · simp -implicitDefEqProofs only [go_sem, evR, ints, rows, rat, rats]
      rw [show i = w.length by omega, List.take_length]
      have hst := q0dq (fun x hx => (hw3 x hx).1) ht
      have hqs := q0oq ⟨hw1, hw2, hw3⟩ ht
      refine q006.pure (q0s7 (quoL w.sum w) hqs) [95] rfl Try.call187 ?_ (by first | trivial | simp [T.noSh, T.noShL, rat]) rfl ?_
      · simp -implicitDefEqProofs only [agR, Nat.reduceLeDiff, Nat.reduceSub, vaR, go_sem, ints, rows, rat, rats, q0p1, rtR, intsO, q0qa]
      simp -implicitDefEqProofs only [go_sem, evR, ints, rows, rat, rats]
      have hsm := hst.sum
      have e60 : IntKind.i64.wrap (60 - (quoL w.sum w).sum) = (((60 - (quoL w.sum w).sum).toNat : Nat) : Int) := by
        have := q0rw hqs (quoL w.sum w).length
        rw [List.take_length] at this
        rw [wrap64 (by omega) (by omega)]; omega
      rw [e60]
      refine SemC.loopR (σ := Nat × List Int × List Int) (fun s => St.of [(6, .own 95), (7, .own 96), (9, .t (.i s.1))] [(95, .arr 1 (s.2.1.map T.i)), (96, .arr 1 (s.2.2.map T.i))]) (fun s => HamI w w.sum s.1 s.2.1 s.2.2 /\ q0dn s.1 s.2.1 s.2.2 = ham1 w /\ s.1 <= 60) (fun s => s.1) ((60 - (quoL w.sum w).sum).toNat, quoL w.sum w, remL w.sum w) (Weak.of _ _ [some 95, some 96] (by simp) (by simp) ?_ ?_) ⟨hst, rfl, by
        have := q0ub (w := quoL w.sum w) fun y hy => by
          obtain ⟨x, hx, rfl⟩ := List.mem_map.1 hy
          exact Int.ediv_nonneg (by have := hw3 x hx; omega) (by omega)
        simp only []; omega⟩ fun s hI R hn hr he => ?_
      · simp -implicitDefEqProofs only [ints, rows, Nat.reduceBEq, wkR, Nat.reduceEqDiff, ↓reduceIte, wrR]
      · exact ⟨⟨_, rfl, .refl _⟩, rfl, ⟨_, rfl, .refl _⟩, rfl, trivial⟩
      · obtain ⟨m, p, r⟩ := s
        obtain ⟨hH, hgo, hm60⟩ := hI
        (try simp only [] at hH hgo hm60)
        simp -implicitDefEqProofs only [go_sem, evR, ints, rows, rat, rats]
        have hlp := hH.lp
        have hlr := hH.lr
        refine ⟨fun h => ?_, fun h => he _ _ ?_⟩
        · obtain ⟨m', rfl⟩ : ∃ m', m = m' + 1 := ⟨m - 1, by omega⟩
          obtain ⟨hb1, hb2⟩ := hH.best ht
          have hnext := hH.step ht
          refine SemC.loopR (σ := Nat) (fun k => St.of [(6, .own 95), (7, .own 96), (9, .t (.i (m' + 1 : Nat))), (10, .t (.i (maxI r k : Nat))), (11, .t (.i k))] [(95, .arr 1 (p.map T.i)), (96, .arr 1 (r.map T.i))]) (fun k => 1 <= k /\ k <= r.length) (fun k => r.length - k) 1 (Weak.of _ _ [some 95, some 96] (by simp) (by simp) ?_ ?_) ⟨by omega, by omega⟩ fun k hk R2 hn2 hr2 he2 => ?_
          · simp -implicitDefEqProofs only [ints, rows, Nat.reduceBEq, wkR, Nat.reduceEqDiff, ↓reduceIte, wrR, q0jz]
          · exact ⟨⟨_, rfl, .refl _⟩, rfl, ⟨_, rfl, .refl _⟩, rfl, trivial⟩
          · simp -implicitDefEqProofs only [go_sem, evR, ints, rows, rat, rats]
            refine ⟨fun h => ?_, fun h => he2 _ _ ?_⟩
            · have hkl : k < r.length := by omega
              obtain ⟨x, hx⟩ : ∃ x, r[k]? = some x := ⟨_, List.getElem?_eq_getElem hkl⟩
              have hml := q0jx r k (by omega) (by omega)
              obtain ⟨y, hy⟩ : ∃ y, r[maxI r k]? = some y := ⟨_, List.getElem?_eq_getElem hml⟩
              have hms : maxI r (k + 1) = if y < x then k else maxI r k := by
                rw [maxI, List.getD_eq_getElem?_getD, List.getD_eq_getElem?_getD, hx, hy]; rfl
              refine ⟨by omega, by omega, by omega, fun x' hx' => ⟨by omega, by omega, by omega, fun y' hy' => ?_⟩⟩
              rw [hx] at hx'; cases hx'
              rw [hy] at hy'; cases hy'
              refine ⟨fun hc => ?_, fun hc => ?_⟩
              · rw [if_pos (by omega)] at hms
                refine hn2 _ (k + 1) (Weak.of _ _ [some 95, some 96] (by simp) (by simp) ?_ ?_) ⟨by omega, by omega⟩ (by omega)
                · simp -implicitDefEqProofs only [ints, rows, Nat.reduceBEq, wkR, Nat.reduceEqDiff, ↓reduceIte, wrR, q0lb hkl (by omega), hms]
                · exact ⟨⟨_, rfl, .refl _⟩, rfl, ⟨_, rfl, .refl _⟩, rfl, trivial⟩
              · rw [if_neg (by omega)] at hms
                refine hn2 _ (k + 1) (Weak.of _ _ [some 95, some 96] (by simp) (by simp) ?_ ?_) ⟨by omega, by omega⟩ (by omega)
                · simp -implicitDefEqProofs only [ints, rows, Nat.reduceBEq, wkR, Nat.reduceEqDiff, ↓reduceIte, wrR, q0lb hkl (by omega), hms]
                · exact ⟨⟨_, rfl, .refl _⟩, rfl, ⟨_, rfl, .refl _⟩, rfl, trivial⟩
            · simp -implicitDefEqProofs only [go_sem, evR, ints, rows, rat, rats]
              have hk' : k = r.length := by omega
              subst hk'
              have hsm := hH.small ht hb1 (hw3 _ (by rw [List.getD_eq_getElem?_getD, List.getElem?_eq_getElem hb1]; exact List.getElem_mem _))
              refine ⟨by omega, by omega, by omega, fun a ha => ?_⟩
              have hg : p.getD (maxI r r.length) 0 = a := by rw [List.getD_eq_getElem?_getD, ha]; rfl
              rw [hg] at hsm hnext
              rw [wrap64 (n := a + 1) (by omega) (by omega)]
              refine ⟨by omega, by omega, by omega, by omega, by omega, by omega, ?_⟩
              refine hn _ (m', p.set (maxI r r.length) (a + 1), r.set (maxI r r.length) (-1)) (Weak.of _ _ [some 95, some 96] (by simp) (by simp) ?_ ?_) ⟨hnext, by rw [← hgo, q0dn, hg], by simp only []; omega⟩ (by simp only []; omega)
              · have e : IntKind.i64.wrap (((m' + 1 : Nat) : Int) - 1) = (m' : Int) := by rw [wrap64 (by omega) (by omega)]; omega
                simp -implicitDefEqProofs only [ints, rows, Nat.reduceBEq, wkR, Nat.reduceEqDiff, ↓reduceIte, wrR, e]
              · refine ⟨⟨_, rfl, ?_⟩, rfl, ⟨_, rfl, ?_⟩, rfl, trivial⟩
                · rw [List.map_set]; exact .refl _
                · rw [List.map_set]; exact .refl _
        · simp -implicitDefEqProofs only [go_sem, evR, ints, rows, rat, rats]
          have hm0 : m = 0 := by omega
          subst hm0
          rw [← hgo, q0dn]; rfl

theorem q0mc {w : List Int} (h : q0xj w) : q0xj (q0mb w) := ⟨by have := h.1; simpa [q0mb] using this, by have := h.2.1; simpa [q0mb] using this, fun x hx => by simp [q0mb] at hx; omega⟩
theorem q0md {w : List Int} {i : Nat} {x : Int} (h : w[i]? = some x) : q0mb (w.take (i + 1)) = q0mb (w.take i) ++ [1] := by rw [q0uj h]; simp [q0mb]
theorem q0si (w : List Int) (hw : q0xj w) : Fun Try.prog 172 [] [.t (ints w)] fun o r => o = [] /\ r = intsO (ham w) := by
  have hs := q0xk hw
  have hs0 := q0ub (w := w) fun x hx => (hw.2.2 x hx).1
  by_cases h0 : w.sum = 0
  · rw [ham, if_pos h0]
    have ho := q0sh (q0mb w) (q0mc hw) (by rw [q0me]; have := hw.1; omega)
    obtain ⟨hw1, hw2, hw3⟩ := hw
    refine q0bw (by simp) ?_
    simp -implicitDefEqProofs only [go_sem, evR, ints, rows, rat, rats, q04y]
    refine q006.pure (q0s7 w hs) [] rfl Try.call187 ?_ (by first | trivial | simp [T.noSh, T.noShL, rat]) rfl ?_
    · simp -implicitDefEqProofs only [agR, Nat.reduceLeDiff, Nat.reduceSub, vaR, go_sem, ints, rows, rat, rats, q0p1, rtR, intsO, q0qa]
    simp -implicitDefEqProofs only [go_sem, evR, ints, rows, rat, rats]
    refine ⟨fun _ => ?_, fun h => absurd h (by simp [h0])⟩
    refine SemC.loopR (σ := Nat) (fun i => St.of [(0, .t (ints w)), (4, .own 95), (5, .t (.i i))] [(95, .arr 1 ((q0mb (w.take i)).map T.i))]) (fun i => i <= w.length) (fun i => w.length - i) 0 (Weak.of _ _ [some 16] (by simp) (by simp) ?_ ?_) (by omega) fun i hi R hn hr he => ?_
    · simp -implicitDefEqProofs only [ints, rows, Nat.reduceBEq, wkR, Nat.reduceEqDiff, ↓reduceIte, wrR]
    · exact ⟨⟨_, rfl, .refl _⟩, rfl, trivial⟩
    · simp -implicitDefEqProofs only [go_sem, evR, ints, rows, rat, rats]
      refine ⟨fun h => ?_, fun h => he _ _ ?_⟩
      · obtain ⟨x, hx⟩ : ∃ x, w[i]? = some x := ⟨_, List.getElem?_eq_getElem (by omega)⟩
        refine ⟨by rw [q0mb, List.length_map, List.length_take]; omega, hn _ (i + 1) (Weak.of _ _ [some 25] (by simp) (by simp) ?_ ?_) (by omega) (by omega)⟩
        · simp -implicitDefEqProofs only [ints, rows, Nat.reduceBEq, wkR, Nat.reduceEqDiff, ↓reduceIte, wrR, q0lb (by omega : i < w.length) (by omega)]
        · refine ⟨⟨_, rfl, ?_⟩, rfl, trivial⟩
          rw [q0md hx, List.map_append]; exact .refl _
      · simp -implicitDefEqProofs only [go_sem, evR, ints, rows, rat, rats]
        rw [show i = w.length by omega, List.take_length]
        refine q006.res ho [95] rfl Try.call172 ?_ (.inr (q0fh _)) ?_
        · simp -implicitDefEqProofs only [agR, Nat.reduceLeDiff, Nat.reduceSub, vaR, go_sem, ints, rows, rat, rats, q0p1, rtR, intsO, q0qa]
        simp -implicitDefEqProofs only [clR, Nat.reduceLeDiff, go_sem, evR, rat]
  · rw [ham, if_neg h0]
    exact q0sh w hw (by omega)
theorem q0k0 (r : List Int) : ∀ k, 1 <= k -> k <= r.length -> maxL (r.take k) = r.getD (maxI r k) 0
  | 0, h, _ => by omega
  | 1, _, h => by
    rw [q0jz]
    cases r with
    | nil => simp at h
    | cons a r => simp [maxL]
  | k + 2, _, h => by
    have ih := q0k0 r (k + 1) (by omega) (by omega)
    obtain ⟨x, hx⟩ : ∃ x, r[k + 1]? = some x := ⟨_, List.getElem?_eq_getElem (by omega)⟩
    have hg : r.getD (k + 1) 0 = x := by rw [List.getD_eq_getElem?_getD, hx]; rfl
    rw [q0uj hx, q0k2 (List.ne_nil_of_length_pos (by rw [List.length_take]; omega)), ih]
    show _ = r.getD (if r.getD (maxI r (k + 1)) 0 < r.getD (k + 1) 0 then k + 1 else maxI r (k + 1)) 0
    rw [hg]
    split
    · rw [hg]; omega
    · omega
theorem q0rs (r : List Int) (hr : r.length <= 1000000) (h0 : 0 < r.length) : Pure Try.prog 117 [ints r, .i (maxL r)] (.i (maxI r r.length : Nat)) := by
  refine q0be (by simp) ?_
  simp -implicitDefEqProofs only [go_sem, evR, ints, rows, rat, rats, q04g]
  refine SemC.loopR (σ := Nat) (fun i => St.of [(0, .t (ints r)), (1, .t (.i (maxL r))), (7, .t (.i r.length)), (8, .t (.i i))] []) (fun i => i <= maxI r r.length) (fun i => r.length - i) 0 (Weak.of _ [] [] (by simp) (by simp) ?_ trivial) (by omega) fun i hi R hn hr' he => ?_
  · simp -implicitDefEqProofs only [ints, rows, Nat.reduceBEq, wkR, Nat.reduceEqDiff, ↓reduceIte, wrR]
  · simp -implicitDefEqProofs only [go_sem, evR, ints, rows, rat, rats]
    have hv := q0k0 r r.length (by omega) (by omega)
    rw [List.take_length] at hv
    have hml := q0jx r r.length (Nat.le_refl _) h0
    refine ⟨fun h => ⟨by omega, by omega, by omega, fun x hx => ⟨fun hc => hr' _ ?_, fun hc => ?_⟩⟩, fun h => by omega⟩
    · have hg : r.getD i 0 = x := by rw [List.getD_eq_getElem?_getD, hx]; rfl
      have e : i = maxI r r.length := by
        by_cases hlt : i < maxI r r.length
        · have := q0jw r r.length i hlt
          have hc : maxL r = x := by simpa using hc
          omega
        · omega
      simp -implicitDefEqProofs only [go_sem, evR, ints, rows, rat, rats]
      rw [← e]
    · have hg : r.getD i 0 = x := by rw [List.getD_eq_getElem?_getD, hx]; rfl
      have hne : i ≠ maxI r r.length := by
        intro e
        rw [← e, hg] at hv
        simp [hv] at hc
      refine hn _ (i + 1) (Weak.of _ [] [] (by simp) (by simp) ?_ trivial) (by omega) (by omega)
      simp -implicitDefEqProofs only [ints, rows, Nat.reduceBEq, wkR, Nat.reduceEqDiff, ↓reduceIte, wrR, q0lb (by omega : i < r.length) (by omega)]

def useL (w : List Int) : List Int := if w.sum = 0 then q0mb w else w
theorem q0dr (w : List Int) : ham w = ham1 (useL w) := by unfold ham useL; split <;> rfl
theorem q0x3 (w : List Int) : (useL w).length = w.length := by unfold useL; split <;> simp [q0mb]
theorem q0x5 {w : List Int} (h : q0xj w) : 0 < (useL w).sum := by
  have hs0 := q0ub (w := w) fun x hx => (h.2.2 x hx).1
  have := h.1
  unfold useL; split
  · rw [q0me]; omega
  · omega
theorem q0x4 {w : List Int} (h : q0xj w) : q0xj (useL w) := by
  unfold useL; split
  · exact q0mc h
  · exact h
theorem q094 {α : Type} {l : List α} {f : α -> T} {z : T} {i : Nat} {x : α} (h : l[i]? = some x) : (filled l f z (i + 1))[i]? = some (f x) := by
  obtain ⟨hi, rfl⟩ := List.getElem?_eq_some_iff.1 h
  simp only [filled]
  rw [List.getElem?_append_left (by rw [List.length_map, List.length_take]; omega), List.getElem?_map, List.getElem?_take, if_pos (by omega), List.getElem?_eq_getElem hi]
  rfl
theorem q0ev (w : List Int) (hw : q0xj w) : Fun Try.prog 193 [] [.t (ints w)] fun o r => o = [] /\ r = intsO (ham w) := by
  have hs := q0xk hw
  have hu := q0x4 hw
  have ht := q0x5 hw
  have hul := q0x3 w
  rw [q0dr]
  have hsum0 := q0ub (w := w) fun x hx => (hw.2.2 x hx).1
  have hsum : w.sum <= 1000000000000000 := by have := q0rw hs w.length; rw [List.take_length] at this; omega
  have husum : (useL w).sum <= 1000000000000000 := by have := q0rw (q0xk hu) (useL w).length; rw [List.take_length] at this; omega
  have hql : (quoL (useL w).sum (useL w)).length = w.length := by simp [quoL, hul]
  have hrl : (remL (useL w).sum (useL w)).length = w.length := by simp [remL, hul]
  obtain ⟨hw1, hw2, hw3⟩ := hw
  refine q0al (by simp) ?_
  simp -implicitDefEqProofs only [go_sem, evR, ints, rows, rat, rats, q03n]
  refine q006.pure (q0f1 w hs) [] rfl Try.call200 ?_ (by first | trivial | simp [T.noSh, T.noShL, rat]) rfl ?_
  · simp -implicitDefEqProofs only [agR, Nat.reduceLeDiff, Nat.reduceSub, vaR, go_sem, ints, rows, rat, rats, q0p1, rtR, intsO, q0qa]
  simp -implicitDefEqProofs only [go_sem, evR, ints, rows, rat, rats]
  refine ⟨by omega, by omega, by omega, by omega, ?_⟩
  refine SemC.loopR (σ := Nat) (fun i => St.of [(0, .t (ints w)), (3, .t (.i w.sum)), (4, .own 14), (5, .own 17), (6, .t (.i (60 - ((quoL (useL w).sum (useL w)).take i).sum))), (18, .t (ints w)), (19, .t (.i w.length)), (20, .t (.i i))] [(14, .arr 1 (filled (quoL (useL w).sum (useL w)) T.i (T.i 0) i)), (17, .arr 1 (filled (remL (useL w).sum (useL w)) T.i (T.i 0) i))]) (fun i => i <= w.length) (fun i => w.length - i) 0 (Weak.of _ _ [some 14, some 17] (by simp) (by simp) ?_ ?_) (by omega) fun i hi R hn hr he => ?_
  · simp -implicitDefEqProofs only [ints, rows, Nat.reduceBEq, wkR, Nat.reduceEqDiff, ↓reduceIte, wrR, List.take_zero, List.sum_nil, Int.sub_zero]
  · refine ⟨⟨_, rfl, ?_⟩, rfl, ⟨_, rfl, ?_⟩, rfl, trivial⟩
    · rw [q097, hql, q0jc]; exact .refl _
    · rw [q097, hrl, q0jc]; exact .refl _
  · simp -implicitDefEqProofs only [go_sem, evR, ints, rows, rat, rats]
    refine ⟨fun h => ⟨by omega, by omega, by omega, fun x hx => ?_⟩, fun h => he _ _ ?_⟩
    · have hxb := hw3 x (List.mem_of_getElem? hx)
      obtain ⟨ux, hux⟩ : ∃ y, (useL w)[i]? = some y := ⟨_, List.getElem?_eq_getElem (by omega)⟩
      have hq : (quoL (useL w).sum (useL w))[i]? = some (60 * ux / (useL w).sum) := by rw [quoL, List.getElem?_map, hux]; rfl
      have hr' : (remL (useL w).sum (useL w))[i]? = some (60 * ux % (useL w).sum) := by rw [remL, List.getElem?_map, hux]; rfl
      have hqs := q0oq hu ht
      have hb1 := q0rw hqs i
      have hb2 := q0rw hqs (i + 1)
      have hss := q0ud ((quoL (useL w).sum (useL w)).take i) (60 * ux / (useL w).sum)
      rw [← q0uj hq] at hss
      have hls : IntKind.i64.wrap (60 - ((quoL (useL w).sum (useL w)).take i).sum - 60 * ux / (useL w).sum) = 60 - ((quoL (useL w).sum (useL w)).take (i + 1)).sum := by
        rw [wrap64 (by omega) (by omega), hss]; omega
      have hfq := q096 (f := T.i) (z := T.i 0) hq
      have hfr := q096 (f := T.i) (z := T.i 0) hr'
      have hfl1 := q095 (quoL (useL w).sum (useL w)) T.i (T.i 0) i (by omega)
      have hfl2 := q095 (remL (useL w).sum (useL w)) T.i (T.i 0) i (by omega)
      have hget := q094 (f := T.i) (z := T.i 0) hq
      have hcase : (w.sum = 0 /\ ux = 1 /\ (useL w).sum = w.length) ∨ (w.sum ≠ 0 /\ ux = x /\ (useL w).sum = w.sum) := by
        unfold useL at hux ⊢
        split at hux
        · rename_i h0
          rw [if_pos h0, q0me]
          rw [q0mb, List.getElem?_map, hx] at hux
          exact .inl ⟨h0, by simpa using hux.symm, rfl⟩
        · rename_i h0
          rw [if_neg h0]
          rw [hx] at hux
          exact .inr ⟨h0, by simpa using hux.symm, rfl⟩
      refine ⟨fun h0 => ?_, fun h0 => ?_⟩
      · have h0 : w.sum = 0 := by simpa using h0
        obtain ⟨_, hu1, hu2⟩ := hcase.resolve_right (fun h => h.1 h0)
        have e1 : IntKind.i64.wrap (Int.tdiv 60 (w.length : Int)) = 60 * ux / (useL w).sum := by
          have := Int.ediv_nonneg (a := 60) (b := (w.length : Int)) (by omega) (by omega)
          have := Int.ediv_le_self (a := 60) (w.length : Int) (by omega)
          rw [Int.tdiv_eq_ediv_of_nonneg (by omega), wrap64 (by omega) (by omega), hu1, hu2]; rfl
        have e2 : Int.tmod 60 (w.length : Int) = 60 * ux % (useL w).sum := by
          rw [Int.tmod_eq_emod_of_nonneg (by omega), hu1, hu2]; rfl
        simp only [e1, e2, hfq, hfr]
        refine ⟨by omega, by omega, by omega, by omega, by omega, by omega, by omega, by omega, by omega, by omega, by omega, fun c hc => ?_⟩
        rw [hget] at hc; cases hc
        refine ⟨rfl, rfl, ?_⟩
        simp only [hls]
        refine hn _ (i + 1) (Weak.of _ _ [some 14, some 17] (by simp) (by simp) ?_ ?_) (by omega) (by omega)
        · simp -implicitDefEqProofs only [ints, rows, Nat.reduceBEq, wkR, Nat.reduceEqDiff, ↓reduceIte, wrR, q0lb (by omega : i < w.length) (by omega)]
        · exact ⟨⟨_, rfl, .refl _⟩, rfl, ⟨_, rfl, .refl _⟩, rfl, trivial⟩
      · have h0 : w.sum ≠ 0 := by simpa using h0
        obtain ⟨_, hu1, hu2⟩ := hcase.resolve_left (fun h => h0 h.1)
        have hq1 := Int.ediv_nonneg (a := 60 * x) (b := w.sum) (by omega) (by omega)
        have hq2 : 60 * x / w.sum <= 60 * x := Int.ediv_le_self _ (by omega)
        have e1 : IntKind.i64.wrap ((IntKind.i64.wrap (60 * x)).tdiv w.sum) = 60 * ux / (useL w).sum := by
          rw [wrap64 (n := 60 * x) (by omega) (by omega), Int.tdiv_eq_ediv_of_nonneg (by omega), wrap64 (by omega) (by omega), hu1, hu2]
        have e2 : (IntKind.i64.wrap (60 * x)).tmod w.sum = 60 * ux % (useL w).sum := by
          rw [wrap64 (n := 60 * x) (by omega) (by omega), Int.tmod_eq_emod_of_nonneg (by omega), hu1, hu2]
        simp only [e1, e2, hfq, hfr]
        refine ⟨by omega, by omega, by omega, by omega, by omega, by omega, by omega, by omega, by omega, by omega, by omega, fun c hc => ?_⟩
        rw [hget] at hc; cases hc
        refine ⟨rfl, rfl, ?_⟩
        simp only [hls]
        refine hn _ (i + 1) (Weak.of _ _ [some 14, some 17] (by simp) (by simp) ?_ ?_) (by omega) (by omega)
        · simp -implicitDefEqProofs only [ints, rows, Nat.reduceBEq, wkR, Nat.reduceEqDiff, ↓reduceIte, wrR, q0lb (by omega : i < w.length) (by omega)]
        · exact ⟨⟨_, rfl, .refl _⟩, rfl, ⟨_, rfl, .refl _⟩, rfl, trivial⟩
    · simp -implicitDefEqProofs only [go_sem, evR, ints, rows, rat, rats]
      have f1 : filled (quoL (useL w).sum (useL w)) T.i (T.i 0) i = (quoL (useL w).sum (useL w)).map T.i := by rw [show i = (quoL (useL w).sum (useL w)).length by omega, q093]
      have f2 : filled (remL (useL w).sum (useL w)) T.i (T.i 0) i = (remL (useL w).sum (useL w)).map T.i := by rw [show i = (remL (useL w).sum (useL w)).length by omega, q093]
      have f3 : (quoL (useL w).sum (useL w)).take i = quoL (useL w).sum (useL w) := List.take_of_length_le (by omega)
      rw [f1, f2, f3]
      have hst := q0dq (fun x hx => (hu.2.2 x hx).1) ht
      have hsm := hst.sum
      have hqn := q0ub (w := quoL (useL w).sum (useL w)) fun y hy => by
        obtain ⟨x, hx, rfl⟩ := List.mem_map.1 hy
        exact Int.ediv_nonneg (by have := hu.2.2 x hx; omega) (by omega)
      refine SemC.loopR (σ := Nat × List Int × List Int) (fun s => St.of [(4, .own 14), (5, .own 17), (6, .t (.i s.1))] [(14, .arr 1 (s.2.1.map T.i)), (17, .arr 1 (s.2.2.map T.i))]) (fun s => HamI (useL w) (useL w).sum s.1 s.2.1 s.2.2 /\ q0dn s.1 s.2.1 s.2.2 = ham1 (useL w) /\ s.1 <= 60) (fun s => s.1) ((60 - (quoL (useL w).sum (useL w)).sum).toNat, quoL (useL w).sum (useL w), remL (useL w).sum (useL w)) (Weak.of _ _ [some 14, some 17] (by simp) (by simp) ?_ ?_) ⟨hst, rfl, by simp only []; omega⟩ fun s hI R hn hr he => ?_
      · have e60 : 60 - (quoL (useL w).sum (useL w)).sum = (((60 - (quoL (useL w).sum (useL w)).sum).toNat : Nat) : Int) := by omega
        simp -implicitDefEqProofs only [ints, rows, Nat.reduceBEq, wkR, Nat.reduceEqDiff, ↓reduceIte, wrR, ← e60]
      · exact ⟨⟨_, rfl, .refl _⟩, rfl, ⟨_, rfl, .refl _⟩, rfl, trivial⟩
      · obtain ⟨m, p, r⟩ := s
        obtain ⟨hH, hgo, hm60⟩ := hI
        (try simp only [] at hH hgo hm60)
        have hlp := hH.lp
        have hlr := hH.lr
        simp -implicitDefEqProofs only [go_sem, evR, ints, rows, rat, rats]
        refine ⟨fun h => ?_, fun h => he _ _ ?_⟩
        · obtain ⟨m', rfl⟩ : ∃ m', m = m' + 1 := ⟨m - 1, by omega⟩
          obtain ⟨hb1, hb2⟩ := hH.best ht
          have hnext := hH.step ht
          refine q006.pure (q0rt r (List.ne_nil_of_length_pos (by omega)) (by omega)) [17] rfl Try.call106 ?_ (by first | trivial | simp [T.noSh, T.noShL, rat]) rfl ?_
          · simp -implicitDefEqProofs only [agR, Nat.reduceLeDiff, Nat.reduceSub, vaR, go_sem, ints, rows, rat, rats, q0p1, rtR, intsO, q0qa]
          simp -implicitDefEqProofs only [go_sem, evR, ints, rows, rat, rats]
          refine q006.pure (q0rs r (by omega) (by omega)) [17] rfl Try.call117 ?_ (by first | trivial | simp [T.noSh, T.noShL, rat]) rfl ?_
          · simp -implicitDefEqProofs only [agR, Nat.reduceLeDiff, Nat.reduceSub, vaR, go_sem, ints, rows, rat, rats, q0p1, rtR, intsO, q0qa]
          simp -implicitDefEqProofs only [go_sem, evR, ints, rows, rat, rats]
          have hsm := hH.small ht hb1 (hu.2.2 _ (by rw [List.getD_eq_getElem?_getD, List.getElem?_eq_getElem hb1]; exact List.getElem_mem _))
          refine ⟨by omega, by omega, by omega, fun a ha => ?_⟩
          have hg : p.getD (maxI r r.length) 0 = a := by rw [List.getD_eq_getElem?_getD, ha]; rfl
          rw [hg] at hsm hnext
          rw [wrap64 (n := a + 1) (by omega) (by omega)]
          refine ⟨by omega, by omega, by omega, by omega, by omega, by omega, ?_⟩
          refine hn _ (m', p.set (maxI r r.length) (a + 1), r.set (maxI r r.length) (-1)) (Weak.of _ _ [some 14, some 17] (by simp) (by simp) ?_ ?_) ⟨hnext, by rw [← hgo, q0dn, hg], by simp only []; omega⟩ (by simp only []; omega)
          · have e : IntKind.i64.wrap (((m' + 1 : Nat) : Int) - 1) = (m' : Int) := by rw [wrap64 (by omega) (by omega)]; omega
            simp -implicitDefEqProofs only [ints, rows, Nat.reduceBEq, wkR, Nat.reduceEqDiff, ↓reduceIte, wrR, e]
          · refine ⟨⟨_, rfl, ?_⟩, rfl, ⟨_, rfl, ?_⟩, rfl, trivial⟩
            · rw [List.map_set]; exact .refl _
            · rw [List.map_set]; exact .refl _
        · simp -implicitDefEqProofs only [go_sem, evR, ints, rows, rat, rats]
          have hm0 : m = 0 := by omega
          subst hm0
          rw [← hgo, q0dn]; rfl

def evO (g : Gm) (s t : List (List Int)) : T := .box [nodes g.nd, rows g.w, rows g.v, intsO (ownL g 0), intsO (ownL g 1), rows s, rows t, intsO (parN g.nd g.nd.length)]
def evL (g : Gm) (s t : List (List Int)) : List T := [nodes g.nd, rows g.w, rows g.v, ints (ownL g 0), ints (ownL g 1), rows s, rows t, ints (parN g.nd g.nd.length)]
def evB (g : Gm) (s t : List (List Int)) (c3 c4 : T) (par : List Int) : T := .box [nodes g.nd, rows g.w, rows g.v, c3, c4, rows s, rows t, intsO par]
def evC (g : Gm) (q : Int) (b : Bool) : T := if b = true then intsO (ownL g q) else .v (.slice none 0 0)
theorem q0ns {l : List Nd} {i : Nat} {x : Nd} (hx : l[i]? = some x) : parN l (i + 1) = x.ch.foldl (fun P (c : Int) => P.set c.toNat (i : Int)) (parN l i) := by
  rw [parN, List.getD_eq_getElem?_getD, hx]; rfl
def parK (P ch : List Int) (i k : Nat) : List Int := (ch.take k).foldl (fun P (c : Int) => P.set c.toNat (i : Int)) P
theorem q0nr {P ch : List Int} {i k m : Nat} (h : ch[k]? = some (m : Int)) : parK P ch i (k + 1) = (parK P ch i k).set m (i : Int) := by
  simp only [parK, q0uj h, List.foldl_append, List.foldl_cons, List.foldl_nil, Int.toNat_natCast]
theorem q0nq (P ch : List Int) (i k : Nat) : (parK P ch i k).length = P.length := by rw [parK, q0z9]
section
attribute [-go_sem] q0i5 q0id fldC lenC idxC q0ip q0lp
theorem q0eq (g : Gm) (s t : Int × List (List Int)) (hg : q0fl g = true) : Fun Try.prog 179 [] [.t (q0ck g), .t (q0tu s), .t (q0tu t)] fun o r => o = [] /\ r = evO g s.2 t.2 := by
  obtain ⟨p1, p2, p3, p4, p5⟩ := q0fn hg
  obtain ⟨t1, t2, t3, t4⟩ := q0g0 p1
  have hfl : ∀ q j, (q0z5 (idxs g.nd q g.nd.length) g.w.length g.nd.length j).length = g.nd.length := fun q j => q0z7 _ _ _ _
  have hfs : ∀ q j (n : Nat), (idxs g.nd q g.nd.length)[j]? = some (n : Int) -> q0z5 (idxs g.nd q g.nd.length) g.w.length g.nd.length (j + 1) = (q0z5 (idxs g.nd q g.nd.length) g.w.length g.nd.length j).set n ((j * g.w.length : Nat) : Int) := fun q j n h => by
    rw [q0z5, List.getD_eq_getElem?_getD, h]; rfl
  have hmul : ∀ n : Nat, n <= g.nd.length -> n * g.w.length <= 60 * 6 := fun n hn => Nat.mul_le_mul (by omega) p2.2
  have hoL : ∀ q, ownL g q = q0z5 (idxs g.nd q g.nd.length) g.w.length g.nd.length (idxs g.nd q g.nd.length).length := fun q => rfl
  have w1 : IntKind.i64.wrap 1 = 1 := rfl
  have w2' : IntKind.i64.wrap (1 + 1) = 2 := rfl
  refine q0ai (by simp) ?_
  simp -implicitDefEqProofs only [go_sem, evR, ints, rows, rat, rats, q03k, q0ck, q0tu, nodes, q0jc]
  refine ⟨by omega, by omega, ?_⟩
  refine SemC.loopR (σ := Nat) (fun q => St.of [(3, .own 3), (7, .own 27), (28, .t (.i q))] [(3, .box [nodes g.nd, rows g.w, rows g.v]), (27, evB g s.2 t.2 (evC g 0 (decide (0 < q))) (evC g 1 (decide (1 < q))) (List.replicate g.nd.length 0))]) (fun q => q <= 2) (fun q => 2 - q) 0 (Weak.of _ _ [some 3, some 27] (by simp) (by simp) ?_ ?_) (by omega) fun q hq R hn hr he => ?_
  · simp -implicitDefEqProofs only [ints, rows, Nat.reduceBEq, wkR, Nat.reduceEqDiff, ↓reduceIte, wrR, nodes]
  · refine ⟨⟨_, rfl, .refl _⟩, rfl, ⟨_, rfl, ?_⟩, rfl, trivial⟩
    rw [evB, intsO, List.map_replicate]; exact .refl _
  · match q, hq with
    | 0, _ =>
      simp -implicitDefEqProofs only [go_sem, evR, ints, rows, rat, rats, evB, evC, nodes, intsO, decide_eq_true (show (0 : Int) < 2 by omega), Nat.lt_irrefl, decide_false, Bool.false_eq_true, Int.natCast_zero, Int.cast_ofNat_Int, opR, Nat.reduceBEq]
      refine ⟨by omega, by omega, ?_⟩
      refine q006.res (q0et g.nd 0 (by omega)) [] rfl Try.call181 ?_ (.inl rfl) ?_
      · simp -implicitDefEqProofs only [agR, Nat.reduceLeDiff, Nat.reduceSub, vaR, go_sem, ints, rows, rat, rats, q0p1, rtR, intsO, q0qa]
      simp -implicitDefEqProofs only [clR, Nat.reduceLeDiff, go_sem, evR, rat, intsO]
      have hil := q0e7 g.nd 0 g.nd.length
      refine SemC.loopR (σ := Nat) (fun j => St.of [(3, .own 3), (7, .own 27), (8, .t (.i 0)), (28, .t (.i 0)), (44, .own 44), (45, .t (.i (idxs g.nd 0 g.nd.length).length)), (46, .t (.i j))] [(3, .box [nodes g.nd, rows g.w, rows g.v]), (27, evB g s.2 t.2 (intsO (q0z5 (idxs g.nd 0 g.nd.length) g.w.length g.nd.length j)) (.v (.slice none 0 0)) (List.replicate g.nd.length 0)), (44, intsO (idxs g.nd 0 g.nd.length))]) (fun j => j <= (idxs g.nd 0 g.nd.length).length) (fun j => (idxs g.nd 0 g.nd.length).length - j) 0 (Weak.of _ _ [some 3, some 27, some 44] (by simp) (by simp) ?_ ?_) (by omega) fun j hj R2 hn2 hr2 he2 => ?_
      · simp -implicitDefEqProofs only [ints, rows, Nat.reduceBEq, wkR, Nat.reduceEqDiff, ↓reduceIte, wrR, nodes]
      · refine ⟨⟨_, rfl, .refl _⟩, rfl, ⟨_, rfl, ?_⟩, rfl, ⟨_, rfl, .refl _⟩, rfl, trivial⟩
        simp only [evB, q0z5, q0jc, intsO, List.map_replicate]; exact .refl _
      · rcases Nat.lt_or_ge j (idxs g.nd 0 g.nd.length).length with h9 | h9
        · obtain ⟨y, hy⟩ : ∃ y, (idxs g.nd 0 g.nd.length)[j]? = some y := ⟨_, List.getElem?_eq_getElem h9⟩
          obtain ⟨n, rfl, hn1⟩ := q0e9 hy
          have hjm := hmul j (by omega)
          simp -implicitDefEqProofs only [go_sem, evR, ints, rows, rat, rats, evB, nodes, hy, intsO, decide_eq_true (show (j : Int) < ((idxs g.nd 0 g.nd.length).length : Int) by omega), hfl]
          refine ⟨by omega, by omega, by omega, ?_⟩
          refine ⟨_, Weak.open 27 3 500 rfl rfl rfl (by decide) rfl, ?_⟩
          simp -implicitDefEqProofs only [go_sem, evR, ints, rows, rat, rats, opR, Nat.reduceBEq, hfl]
          refine ⟨by omega, by omega, by omega, by omega, hn2 _ (j + 1) (Weak.trans (Weak.close1 27 3 500 rfl rfl (by decide) rfl) (Weak.of _ _ [some 3, some 27, some 44] (by simp) (by simp) ?_ ?_)) (by omega) (by omega)⟩
          · simp -implicitDefEqProofs only [ints, rows, Nat.reduceBEq, wkR, Nat.reduceEqDiff, ↓reduceIte, wrR, nodes, q0lb h9 (by omega)]
          · refine ⟨⟨_, rfl, .refl _⟩, rfl, ⟨_, rfl, ?_⟩, rfl, ⟨_, rfl, .refl _⟩, rfl, trivial⟩
            rw [hfs _ _ _ hy]; simp only [evB, intsO, List.map_set]; rw [wrap64 (n := (j : Int) * (g.w.length : Int)) (by omega) (by omega), ← Int.natCast_mul]; exact .refl _
        · have hjl : j = (idxs g.nd 0 g.nd.length).length := by omega
          subst hjl
          simp -implicitDefEqProofs only [go_sem, evR, ints, rows, rat, rats, evB, nodes, intsO, decide_eq_false (show ¬ ((idxs g.nd 0 g.nd.length).length : Int) < ((idxs g.nd 0 g.nd.length).length : Int) by omega)]
          refine he2 _ _ ?_
          simp -implicitDefEqProofs only [go_sem, evR, ints, rows, rat, rats]
          rw [← hoL]
          refine hn _ 1 (Weak.of _ _ [some 3, some 27] (by simp) (by simp) ?_ ?_) (by omega) (by omega)
          · simp -implicitDefEqProofs only [ints, rows, Nat.reduceBEq, wkR, Nat.reduceEqDiff, ↓reduceIte, wrR, nodes, Int.zero_add, w1]
          · exact ⟨⟨_, rfl, .refl _⟩, rfl, ⟨_, rfl, .refl _⟩, rfl, trivial⟩
    | 1, _ =>
      simp -implicitDefEqProofs only [go_sem, evR, ints, rows, rat, rats, evB, evC, nodes, intsO, decide_eq_true (show (1 : Int) < 2 by omega), Nat.lt_irrefl, Nat.zero_lt_one, decide_true, decide_false, Bool.false_eq_true, Int.natCast_zero, Int.cast_ofNat_Int, opR, Nat.reduceBEq]
      refine ⟨by omega, by omega, ?_⟩
      refine q006.res (q0et g.nd 1 (by omega)) [] rfl Try.call181 ?_ (.inl rfl) ?_
      · simp -implicitDefEqProofs only [agR, Nat.reduceLeDiff, Nat.reduceSub, vaR, go_sem, ints, rows, rat, rats, q0p1, rtR, intsO, q0qa]
      simp -implicitDefEqProofs only [clR, Nat.reduceLeDiff, go_sem, evR, rat, intsO]
      have hil := q0e7 g.nd 1 g.nd.length
      refine SemC.loopR (σ := Nat) (fun j => St.of [(3, .own 3), (7, .own 27), (8, .t (.i 1)), (28, .t (.i 1)), (44, .own 44), (45, .t (.i (idxs g.nd 1 g.nd.length).length)), (46, .t (.i j))] [(3, .box [nodes g.nd, rows g.w, rows g.v]), (27, evB g s.2 t.2 (intsO (ownL g 0)) (intsO (q0z5 (idxs g.nd 1 g.nd.length) g.w.length g.nd.length j)) (List.replicate g.nd.length 0)), (44, intsO (idxs g.nd 1 g.nd.length))]) (fun j => j <= (idxs g.nd 1 g.nd.length).length) (fun j => (idxs g.nd 1 g.nd.length).length - j) 0 (Weak.of _ _ [some 3, some 27, some 44] (by simp) (by simp) ?_ ?_) (by omega) fun j hj R2 hn2 hr2 he2 => ?_
      · simp -implicitDefEqProofs only [ints, rows, Nat.reduceBEq, wkR, Nat.reduceEqDiff, ↓reduceIte, wrR, nodes]
      · refine ⟨⟨_, rfl, .refl _⟩, rfl, ⟨_, rfl, ?_⟩, rfl, ⟨_, rfl, .refl _⟩, rfl, trivial⟩
        simp only [evB, q0z5, q0jc, intsO, List.map_replicate]; exact .refl _
      · rcases Nat.lt_or_ge j (idxs g.nd 1 g.nd.length).length with h9 | h9
        · obtain ⟨y, hy⟩ : ∃ y, (idxs g.nd 1 g.nd.length)[j]? = some y := ⟨_, List.getElem?_eq_getElem h9⟩
          obtain ⟨n, rfl, hn1⟩ := q0e9 hy
          have hjm := hmul j (by omega)
          simp -implicitDefEqProofs only [go_sem, evR, ints, rows, rat, rats, evB, nodes, hy, intsO, decide_eq_true (show (j : Int) < ((idxs g.nd 1 g.nd.length).length : Int) by omega), hfl]
          refine ⟨by omega, by omega, by omega, ?_⟩
          refine ⟨_, Weak.open 27 4 500 rfl rfl rfl (by decide) rfl, ?_⟩
          simp -implicitDefEqProofs only [go_sem, evR, ints, rows, rat, rats, opR, Nat.reduceBEq, hfl]
          refine ⟨by omega, by omega, by omega, by omega, hn2 _ (j + 1) (Weak.trans (Weak.close1 27 4 500 rfl rfl (by decide) rfl) (Weak.of _ _ [some 3, some 27, some 44] (by simp) (by simp) ?_ ?_)) (by omega) (by omega)⟩
          · simp -implicitDefEqProofs only [ints, rows, Nat.reduceBEq, wkR, Nat.reduceEqDiff, ↓reduceIte, wrR, nodes, q0lb h9 (by omega)]
          · refine ⟨⟨_, rfl, .refl _⟩, rfl, ⟨_, rfl, ?_⟩, rfl, ⟨_, rfl, .refl _⟩, rfl, trivial⟩
            rw [hfs _ _ _ hy]; simp only [evB, intsO, List.map_set]; rw [wrap64 (n := (j : Int) * (g.w.length : Int)) (by omega) (by omega), ← Int.natCast_mul]; exact .refl _
        · have hjl : j = (idxs g.nd 1 g.nd.length).length := by omega
          subst hjl
          simp -implicitDefEqProofs only [go_sem, evR, ints, rows, rat, rats, evB, nodes, intsO, decide_eq_false (show ¬ ((idxs g.nd 1 g.nd.length).length : Int) < ((idxs g.nd 1 g.nd.length).length : Int) by omega)]
          refine he2 _ _ ?_
          simp -implicitDefEqProofs only [go_sem, evR, ints, rows, rat, rats]
          rw [← hoL]
          refine hn _ 2 (Weak.of _ _ [some 3, some 27] (by simp) (by simp) ?_ ?_) (by omega) (by omega)
          · simp -implicitDefEqProofs only [ints, rows, Nat.reduceBEq, wkR, Nat.reduceEqDiff, ↓reduceIte, wrR, nodes, w2']
          · exact ⟨⟨_, rfl, .refl _⟩, rfl, ⟨_, rfl, .refl _⟩, rfl, trivial⟩
    | 2, _ =>
      simp -implicitDefEqProofs only [go_sem, evR, ints, rows, rat, rats, evB, evC, nodes, intsO, decide_eq_false (show ¬ (2 : Int) < 2 by omega), Nat.lt_irrefl, decide_false, Bool.false_eq_true, Int.natCast_zero, Int.cast_ofNat_Int]
      refine he _ _ ?_
      simp -implicitDefEqProofs only [go_sem, evR, ints, rows, rat, rats]
      refine SemC.loopR (σ := Nat) (fun i => St.of [(7, .own 27), (68, .t (nodes g.nd)), (69, .t (.i g.nd.length)), (70, .t (.i i))] [(27, evB g s.2 t.2 (intsO (ownL g 0)) (intsO (ownL g 1)) (parN g.nd i))]) (fun i => i <= g.nd.length) (fun i => g.nd.length - i) 0 (Weak.of _ _ [some 27] (by simp) (by simp) ?_ ?_) (by omega) fun i hi R3 hn3 hr3 he3 => ?_
      · simp -implicitDefEqProofs only [ints, rows, Nat.reduceBEq, wkR, Nat.reduceEqDiff, ↓reduceIte, wrR, nodes, q0l0]
      · exact ⟨⟨_, rfl, .refl _⟩, rfl, trivial⟩
      · rcases Nat.lt_or_ge i g.nd.length with h9 | h9
        · obtain ⟨x, hx⟩ : ∃ x, g.nd[i]? = some x := ⟨_, List.getElem?_eq_getElem h9⟩
          have hch := q0kp (t2 i _ hx)
          obtain ⟨_, _, _, _, _, hch4⟩ := q0ks (t2 i _ hx)
          simp -implicitDefEqProofs only [go_sem, evR, ints, rows, rat, rats, nodes, q0kw hx, decide_eq_true (show (i : Int) < (g.nd.length : Int) by omega), opR, Nat.reduceBEq]
          refine ⟨by omega, by rw [q0l0]; omega, by rw [q0l0]; omega, ?_⟩
          refine SemC.loopR (σ := Nat) (fun k => St.of [(7, .own 27), (11, .t (.i i)), (68, .t (nodes g.nd)), (69, .t (.i g.nd.length)), (70, .t (.i i)), (76, .t (ints x.ch)), (77, .t (.i x.ch.length)), (78, .t (.i k))] [(27, evB g s.2 t.2 (intsO (ownL g 0)) (intsO (ownL g 1)) (parK (parN g.nd i) x.ch i k))]) (fun k => k <= x.ch.length) (fun k => x.ch.length - k) 0 (Weak.of _ _ [some 27] (by simp) (by simp) ?_ ?_) (by omega) fun k hk R4 hn4 hr4 he4 => ?_
          · simp -implicitDefEqProofs only [ints, rows, Nat.reduceBEq, wkR, Nat.reduceEqDiff, ↓reduceIte, wrR, nodes]
          · exact ⟨⟨_, rfl, .refl _⟩, rfl, trivial⟩
          · rcases Nat.lt_or_ge k x.ch.length with h10 | h10
            · obtain ⟨c, hc⟩ : ∃ c, x.ch[k]? = some c := ⟨_, List.getElem?_eq_getElem h10⟩
              have hcb := hch c (List.mem_of_getElem? hc)
              obtain ⟨m, rfl⟩ : ∃ m : Nat, c = m := ⟨c.toNat, by omega⟩
              have hpl : (parK (parN g.nd i) x.ch i k).length = g.nd.length := by rw [q0nq, q112]
              simp -implicitDefEqProofs only [go_sem, evR, ints, rows, rat, rats, evB, nodes, intsO, hc, decide_eq_true (show (k : Int) < (x.ch.length : Int) by omega), hpl, opR, Nat.reduceBEq]
              refine ⟨by omega, by omega, by omega, by omega, by omega, by omega, hn4 _ (k + 1) (Weak.trans (Weak.close1 27 7 85 rfl rfl (by decide) rfl) (Weak.of _ _ [some 27] (by simp) (by simp) ?_ ?_)) (by omega) (by omega)⟩
              · simp -implicitDefEqProofs only [ints, rows, Nat.reduceBEq, wkR, Nat.reduceEqDiff, ↓reduceIte, wrR, nodes, q0lb h10 (show x.ch.length <= 1000000000000 by omega)]
              · refine ⟨⟨_, rfl, ?_⟩, rfl, trivial⟩
                rw [q0nr hc]; simp only [evB, intsO, List.map_set]; exact .refl _
            · simp -implicitDefEqProofs only [go_sem, evR, ints, rows, rat, rats, evB, nodes, intsO, decide_eq_false (show ¬ (k : Int) < (x.ch.length : Int) by omega)]
              refine he4 _ _ ?_
              simp -implicitDefEqProofs only [go_sem, evR, ints, rows, rat, rats]
              refine hn3 _ (i + 1) (Weak.of _ _ [some 27] (by simp) (by simp) ?_ ?_) (by omega) (by omega)
              · simp -implicitDefEqProofs only [ints, rows, Nat.reduceBEq, wkR, Nat.reduceEqDiff, ↓reduceIte, wrR, nodes, q0lb h9 (by omega)]
              · refine ⟨⟨_, rfl, ?_⟩, rfl, trivial⟩
                rw [q0ns hx, show k = x.ch.length by omega, parK, List.take_of_length_le (Nat.le_refl _)]; exact .refl _
        · simp -implicitDefEqProofs only [go_sem, evR, ints, rows, rat, rats, nodes, decide_eq_false (show ¬ (i : Int) < (g.nd.length : Int) by omega)]
          refine he3 _ _ ?_
          simp -implicitDefEqProofs only [go_sem, evR, ints, rows, rat, rats, evB]
          rw [show i = g.nd.length by omega]; rfl
end

def chP (g : Gm) (s t : List (List Int)) (i a b : Nat) : List Int := if (g.nd.getD i nd0).p = 0 then partsOf g s 0 i a else partsOf g t 1 i b
theorem q0ny {g : Gm} {pt : List (List Int)} {pl : Int} (hnd : q0l2 g.nd) (hpl : pl ≠ 2) (h : q0nw g pt pl) {i c : Nat} (hi : i < g.nd.length) (hc : c < g.w.length) (hp : (g.nd.getD i nd0).p = pl) : pt[setI g pl i c]? = some (partsOf g pt pl i c) := by
  obtain ⟨m1, m2, m3⟩ := h i c hi hc hp
  unfold partsOf at m3 ⊢
  rw [List.getD_eq_getElem?_getD] at m3 ⊢
  cases hx : pt[setI g pl i c]? with
  | some x => rfl
  | none => rw [hx] at m3; simp [sumI] at m3
theorem q061 {g : Gm} {s t : List (List Int)} (hnd : q0l2 g.nd) (hs : q0nw g s 0) (ht : q0nw g t 1) {i a b : Nat} (hi : i < g.nd.length) (ha : a < g.w.length) (hb : b < g.w.length) (h2 : (g.nd.getD i nd0).p ≠ 2) :
    (chP g s t i a b).length = (g.nd.getD i nd0).ch.length /\ (∀ x ∈ chP g s t i a b, 0 <= x /\ x <= 60) /\ sumI (chP g s t i a b) = 60 := by
  have hx : g.nd[i]? = some (g.nd.getD i nd0) := by rw [List.getD_eq_getElem?_getD, List.getElem?_eq_getElem hi]; rfl
  obtain ⟨⟨r1, r2⟩, _⟩ := q0ks (hnd i _ hx)
  unfold chP
  by_cases h0 : (g.nd.getD i nd0).p = 0
  · rw [if_pos h0]; exact hs i a hi ha h0
  · rw [if_neg h0]; exact ht i b hi hb (by omega)
theorem q0xb {g : Gm} {s t : List (List Int)} {f i a b p : Nat} (h2 : (g.nd.getD i nd0).p ≠ 2) {n : Nat} (hn : (g.nd.getD i nd0).ch.length <= n) : valK g s t f a b (p - 1) (chP g s t i a b) (g.nd.getD i nd0).ch n = val g s t (f + 1) i a b p := by
  rw [val]
  (try simp only [])
  rw [if_neg h2, valK, chP, List.take_of_length_le]
  rw [List.length_zipWith]; omega
theorem q0xa {g : Gm} {s t : List (List Int)} (hnd : q0l2 g.nd) (hs : q0nw g s 0) (ht : q0nw g t 1) {a b : Nat} (ha : a < g.w.length) (hb : b < g.w.length) {f p : Nat} {q ch : List Int} (hq : ∀ x ∈ q, 0 <= x /\ x <= 60) (hc : ∀ c ∈ ch, 0 <= c /\ c.toNat < g.nd.length /\ dep g.nd f c.toNat <= p) : ∀ k, k <= q.length -> k <= ch.length -> -(k * (6000 * pw p)) <= valK g s t f a b p q ch k /\ valK g s t f a b p q ch k <= k * (6000 * pw p)
  | 0, _, _ => by simp [valK, sumI]
  | k + 1, h, h' => by
    have ih := q0xa hnd hs ht ha hb hq hc k (by omega) (by omega)
    have hx := List.getElem?_eq_getElem (show k < q.length by omega)
    have hy := List.getElem?_eq_getElem (show k < ch.length by omega)
    rw [q12n hx hy]
    have h1 := hq _ (List.getElem_mem (show k < q.length by omega))
    have h2 := hc _ (List.getElem_mem (show k < ch.length by omega))
    have h3 := q12o hnd hs ht ha hb f _ p h2.2.1 h2.2.2
    obtain ⟨m1, m2⟩ := q0kl h1.1 h3.1 h3.2
    have hp := q0ok p
    have m3 : 100 * pw p * q[k] <= 100 * pw p * 60 := Int.mul_le_mul_of_nonneg_left h1.2 (by omega)
    have e : ((k + 1 : Nat) : Int) * (6000 * pw p) = (k : Int) * (6000 * pw p) + 6000 * pw p := by rw [Int.natCast_succ, Int.add_mul, Int.one_mul]
    rw [e]
    generalize (k : Int) * (6000 * pw p) = Z at ih ⊢
    generalize q[k] * val g s t f (ch[k]).toNat a b p = Y at m1 m2 ⊢
    generalize 100 * pw p * q[k] = U at m1 m2 m3
    omega
theorem q0oj {p : Nat} (h : p <= 5) : 1 <= pw p /\ pw p <= 777600000 := by
  have : p = 0 ∨ p = 1 ∨ p = 2 ∨ p = 3 ∨ p = 4 ∨ p = 5 := by omega
  rcases this with rfl | rfl | rfl | rfl | rfl | rfl <;> decide

theorem q0u6 (F : Nat -> Int) (n : Nat) : sumI ((List.range (n + 1)).map F) = sumI ((List.range n).map F) + F n := by
  rw [List.range_succ, List.map_append, List.map_cons, List.map_nil, q0u7]
section
attribute [-go_sem] q0i5 q0id fldC lenC idxC q0ip q0lp
theorem q0eu {g : Gm} {s t : List (List Int)} (hg : q0fl g = true) (hs : q0nw g s 0) (ht : q0nw g t 1) {i a b : Nat} (hi : i < g.nd.length) (ha : a < g.w.length) (hb : b < g.w.length) (h2 : (g.nd.getD i nd0).p ≠ 2) :
    Pure Try.prog 214 [.pin (evL g s t) 0, .i i, .i a, .i b] (ints (chP g s t i a b)) := by
  obtain ⟨p1, p2, p3, p4, p5⟩ := q0fn hg
  obtain ⟨t1, t2, t3, t4⟩ := q0g0 p1
  obtain ⟨x, hx⟩ : ∃ x, g.nd[i]? = some x := ⟨_, List.getElem?_eq_getElem hi⟩
  have hxd : g.nd.getD i nd0 = x := by rw [List.getD_eq_getElem?_getD, hx]; rfl
  obtain ⟨⟨r1, r2⟩, _⟩ := q0ks (t2 _ _ hx)
  rw [hxd] at h2
  refine q0a0 (by simp) ?_
  have hcase : x.p = 0 ∨ x.p = 1 := by omega
  rcases hcase with h0 | h0
  · have hpd : (g.nd.getD i nd0).p = 0 := by rw [hxd]; exact h0
    have hrow := q0ny t2 (by decide) hs hi ha hpd
    have hoi := q10y hi hpd
    have hol := q10z g 0
    have hrl := (List.getElem?_eq_some_iff.1 hrow).1
    have hset : setI g 0 i a = (idxs g.nd 0 i).length * g.w.length + a := rfl
    have hil := q0e7 g.nd 0 i
    have hm : (idxs g.nd 0 i).length * g.w.length <= 60 * 6 := Nat.mul_le_mul (by omega) p2.2
    rw [chP, if_pos hpd]
    simp -implicitDefEqProofs only [go_sem, evR, ints, rows, rat, rats, q032, evL, nodes, q0ky hx, h0, hoi, hrow, hol, show ((0 : Int) == 1) = false from rfl, show ((1 : Int) == 1) = true from rfl, show IntKind.i64.wrap ((((idxs g.nd 0 i).length * g.w.length : Nat) : Int) + (a : Int)) = ((setI g 0 i a : Nat) : Int) by rw [wrap64 (by omega) (by omega)]; omega]
    rw [q0l0]; omega
  · have hpd : (g.nd.getD i nd0).p = 1 := by rw [hxd]; exact h0
    have hrow := q0ny t2 (by decide) ht hi hb hpd
    have hoi := q10y hi hpd
    have hol := q10z g 1
    have hrl := (List.getElem?_eq_some_iff.1 hrow).1
    have hset : setI g 1 i b = (idxs g.nd 1 i).length * g.w.length + b := rfl
    have hil := q0e7 g.nd 1 i
    have hm : (idxs g.nd 1 i).length * g.w.length <= 60 * 6 := Nat.mul_le_mul (by omega) p2.2
    rw [chP, if_neg (by omega)]
    simp -implicitDefEqProofs only [go_sem, evR, ints, rows, rat, rats, q032, evL, nodes, q0ky hx, h0, hoi, hrow, hol, show ((0 : Int) == 1) = false from rfl, show ((1 : Int) == 1) = true from rfl, show IntKind.i64.wrap ((((idxs g.nd 1 i).length * g.w.length : Nat) : Int) + (b : Int)) = ((setI g 1 i b : Nat) : Int) by rw [wrap64 (by omega) (by omega)]; omega]
    rw [q0l0]; omega
theorem q0nv {g : Gm} {s t : List (List Int)} (hg : q0fl g = true) (hs : q0nw g s 0) (ht : q0nw g t 1) {i a b : Nat} (hi : i < g.nd.length) (ha : a < g.w.length) (hb : b < g.w.length) (h2 : (g.nd.getD i nd0).p ≠ 2) :
    Pure Try.prog 214 [.pin [.sh 5 (chunk q0lu g.nd), .sh 1 (g.w.map ints), .sh 1 (g.v.map ints), .sh 1 ((ownL g 0).map T.i), .sh 1 ((ownL g 1).map T.i), .sh 1 (s.map ints), .sh 1 (t.map ints), .sh 1 ((parN g.nd g.nd.length).map T.i)] 0, .i i, .i a, .i b] (ints (chP g s t i a b)) := q0eu hg hs ht hi ha hb h2
theorem q0xc {g : Gm} {s t : List (List Int)} {i a b p : Int} {r : Int} (h : Pure Try.prog 180 [.pin (evL g s t) 0, .i i, .i a, .i b, .i p] (.i r)) :
    Pure Try.prog 180 [.pin [.sh 5 (chunk q0lu g.nd), .sh 1 (g.w.map ints), .sh 1 (g.v.map ints), .sh 1 ((ownL g 0).map T.i), .sh 1 ((ownL g 1).map T.i), .sh 1 (s.map ints), .sh 1 (t.map ints), .sh 1 ((parN g.nd g.nd.length).map T.i)] 0, .i i, .i a, .i b, .i p] (.i r) := h
theorem q0f7 {g : Gm} {s t : List (List Int)} (hg : q0fl g = true) (hs : q0nw g s 0) (ht : q0nw g t 1) {a b : Nat} (ha : a < g.w.length) (hb : b < g.w.length) : ∀ (f i p : Nat), g.nd.length <= i + f -> i < g.nd.length -> dep g.nd f i <= p -> p <= 5 →
    Pure Try.prog 180 [.pin (evL g s t) 0, .i i, .i a, .i b, .i p] (.i (val g s t f i a b p)) := by
  obtain ⟨p1, p2, p3, p4, p5⟩ := q0fn hg
  obtain ⟨t1, t2, t3, t4⟩ := q0g0 p1
  have hpay := q0o0 t2
  intro f
  induction f with
  | zero => intro i p h1 h2; omega
  | succ f ih =>
    intro i p hf hi hdp hp5
    obtain ⟨x, hx⟩ : ∃ x, g.nd[i]? = some x := ⟨_, List.getElem?_eq_getElem hi⟩
    have hxd : g.nd.getD i nd0 = x := by rw [List.getD_eq_getElem?_getD, hx]; rfl
    have hxl := (q0ks (t2 _ _ hx)).2.2.2.2.2
    have hpw := q0oj hp5
    have hV2 : x.p = 2 -> val g s t (f + 1) i a b p = pay g i a b * pw p := fun h => by rw [val]; (try simp only []); rw [if_pos (by rw [hxd]; exact h)]
    have hV1 : x.p ≠ 2 -> ∀ n, x.ch.length <= n -> valK g s t f a b (p - 1) (chP g s t i a b) x.ch n = val g s t (f + 1) i a b p := fun h n hn => by
      have := q0xb (g := g) (s := s) (t := t) (f := f) (i := i) (a := a) (b := b) (p := p) (n := n) (by rw [hxd]; exact h) (by rw [hxd]; exact hn)
      rw [hxd] at this; exact this
    generalize val g s t (f + 1) i a b p = V' at hV2 hV1 ⊢
    refine q0a1 (by simp) ?_
    simp -implicitDefEqProofs only [go_sem, evR, ints, rows, rat, rats, q033, evL, nodes, q0kw hx]
    refine ⟨by omega, by rw [q0l0]; omega, by rw [q0l0]; omega, ?_⟩
    refine ⟨fun h2 => ?_, fun h2 => ?_⟩
    · have h2 : x.p = 2 := by simpa using h2
      rw [hV2 h2]
      refine q006.pure (q0o5 hg i a b hi ha hb) [] rfl Try.call213 ?_ (by first | trivial | simp [T.noSh, T.noShL, rat]) rfl ?_
      · simp -implicitDefEqProofs only [agR, Nat.reduceLeDiff, Nat.reduceSub, vaR, go_sem, ints, rows, rat, rats, q0p1, rtR, intsO, q0qa]
      simp -implicitDefEqProofs only [go_sem, evR, ints, rows, rat, rats]
      refine q006.pure (q0ex p (by omega)) [] rfl Try.call163 ?_ (by first | trivial | simp [T.noSh, T.noShL, rat]) rfl ?_
      · simp -implicitDefEqProofs only [agR, Nat.reduceLeDiff, Nat.reduceSub, vaR, go_sem, ints, rows, rat, rats, q0p1, rtR, intsO, q0qa]
      simp -implicitDefEqProofs only [go_sem, evR, ints, rows, rat, rats]
      have q1 := hpay i a b
      have m1 := Int.mul_le_mul_of_nonneg_right q1.2 (show 0 <= pw p by omega)
      have m2 := Int.mul_le_mul_of_nonneg_right q1.1 (show 0 <= pw p by omega)
      rw [wrap64 (n := pay g i a b * pw p) (by omega) (by omega)]
    · have h2 : x.p ≠ 2 := by simpa using h2
      have hp2 : (g.nd.getD i nd0).p ≠ 2 := by rw [hxd]; exact h2
      obtain ⟨d1, d2⟩ := q07w (f := f) hp2
      rw [hxd] at d2
      have hch := q0kp (t2 _ _ hx)
      obtain ⟨c1, c2, c3⟩ := q061 t2 hs ht hi ha hb hp2
      rw [hxd] at c1
      obtain ⟨p', rfl⟩ : ∃ p', p = p' + 1 := ⟨p - 1, by omega⟩
      have hpw' := q0oj (show p' <= 5 by omega)
      have hcond : ∀ c ∈ x.ch, 0 <= c /\ c.toNat < g.nd.length /\ dep g.nd f c.toNat <= p' := fun c hc => by
        have h1 := hch c hc
        have h3 := d2 c hc
        omega
      refine q006.res (q0nv hg hs ht hi ha hb hp2) [] rfl Try.call214 ?_ (.inl rfl) ?_
      · simp -implicitDefEqProofs only [agR, Nat.reduceLeDiff, Nat.reduceSub, vaR, go_sem, ints, rows, rat, rats, q0p1, rtR, intsO, q0qa]
      simp -implicitDefEqProofs only [clR, Nat.reduceLeDiff, go_sem, evR, rat, ints]
      rw [Nat.add_sub_cancel] at hV1
      generalize chP g s t i a b = q at hV1 c1 c2 c3 ⊢
      have hKA := q0xa t2 hs ht ha hb (f := f) c2 hcond
      refine SemC.loopR (σ := Nat) (fun k => St.of [(0, .t (.pin (evL g s t) 0)), (1, .t (.i i)), (2, .t (.i a)), (3, .t (.i b)), (4, .t (.i (p' + 1 : Nat))), (11, .own 11), (12, .t (.i (valK g s t f a b p' q x.ch k))), (42, .t (ints q)), (43, .t (.i q.length)), (44, .t (.i k))] [(11, .box [.i x.p, .i x.a, .i x.b, .i x.f, ints x.ch])]) (fun k => k <= q.length) (fun k => q.length - k) 0 (Weak.of _ _ [some 11] (by simp) (by simp) ?_ ?_) (by omega) fun k hk R hn hr he => ?_
      · simp -implicitDefEqProofs only [ints, rows, Nat.reduceBEq, wkR, Nat.reduceEqDiff, ↓reduceIte, wrR, evL, nodes, show valK g s t f a b p' q x.ch 0 = 0 from rfl]
      · exact ⟨⟨_, rfl, .refl _⟩, rfl, trivial⟩
      · rcases Nat.lt_or_ge k q.length with h9 | h9
        · obtain ⟨y, hy⟩ : ∃ y, q[k]? = some y := ⟨_, List.getElem?_eq_getElem h9⟩
          obtain ⟨c, hc⟩ : ∃ c, x.ch[k]? = some c := ⟨_, List.getElem?_eq_getElem (by omega)⟩
          have hyb := c2 y (List.mem_of_getElem? hy)
          have hcb := hcond c (List.mem_of_getElem? hc)
          have hcb1 := hch c (List.mem_of_getElem? hc)
          have hsu := q12n (g := g) (s := s) (t := t) (f := f) (a := a) (b := b) (p := p') hy hc
          have k1 := hKA k (by omega) (by omega)
          have k2 := hKA (k + 1) (by omega) (by omega)
          have k3 : (k : Int) * (6000 * pw p') <= 4 * 4665600000000 := Int.mul_le_mul (by omega) (by omega) (by omega) (by decide)
          have k4 : ((k + 1 : Nat) : Int) * (6000 * pw p') <= 4 * 4665600000000 := Int.mul_le_mul (by omega) (by omega) (by omega) (by decide)
          simp -implicitDefEqProofs only [go_sem, evR, ints, rows, rat, rats, evL, nodes, hy, hc, decide_eq_true (show (k : Int) < (q.length : Int) by omega), wrap64 (n := (p' : Int)) (by omega) (by omega), show ((p' + 1 : Nat) : Int) - 1 = (p' : Int) by omega]
          refine ⟨by omega, by omega, by omega, fun h5 => ⟨by omega, by omega, by omega, ?_⟩, fun h5 => ?_⟩
          · have hcall := q0xc (ih c.toNat p' (by omega) hcb.2.1 hcb.2.2 (by omega))
            rw [show ((c.toNat : Nat) : Int) = c by omega] at hcall
            have hva := q12o t2 hs ht ha hb f c.toNat p' hcb.2.1 hcb.2.2
            obtain ⟨m1, m2⟩ := q0kl hyb.1 hva.1 hva.2
            have m3 : 100 * pw p' * y <= 77760000000 * 60 := Int.mul_le_mul (by omega) hyb.2 hyb.1 (by decide)
            refine q006.pure hcall [] rfl Try.call180 ?_ (by first | trivial | simp [T.noSh, T.noShL, rat]) rfl ?_
            · simp -implicitDefEqProofs only [agR, Nat.reduceLeDiff, Nat.reduceSub, vaR, go_sem, ints, rows, rat, rats, q0p1, rtR, intsO, q0qa]
            simp -implicitDefEqProofs only [go_sem, evR, ints, rows, rat, rats]
            refine hn _ (k + 1) (Weak.of _ _ [some 11] (by simp) (by simp) ?_ ?_) (by omega) (by omega)
            · simp -implicitDefEqProofs only [ints, rows, Nat.reduceBEq, wkR, Nat.reduceEqDiff, ↓reduceIte, wrR, evL, nodes, q0lb h9 (by omega), wrap64 (n := y * val g s t f c.toNat a b p') (by omega) (by omega), ← hsu, wrap64 (n := valK g s t f a b p' q x.ch (k + 1)) (by omega) (by omega)]
            · exact ⟨⟨_, rfl, .refl _⟩, rfl, trivial⟩
          · have hy0 : y = 0 := by have : ¬ y > 0 := by simpa using h5
                                   omega
            rw [hy0, Int.zero_mul, Int.add_zero] at hsu
            refine hn _ (k + 1) (Weak.of _ _ [some 11] (by simp) (by simp) ?_ ?_) (by omega) (by omega)
            · simp -implicitDefEqProofs only [ints, rows, Nat.reduceBEq, wkR, Nat.reduceEqDiff, ↓reduceIte, wrR, evL, nodes, q0lb h9 (by omega), hsu]
            · exact ⟨⟨_, rfl, .refl _⟩, rfl, trivial⟩
        · simp -implicitDefEqProofs only [go_sem, evR, ints, rows, rat, rats, evL, nodes, decide_eq_false (show ¬ (k : Int) < (q.length : Int) by omega)]
          refine he _ _ ?_
          simp -implicitDefEqProofs only [go_sem, evR, ints, rows, rat, rats]
          rw [hV1 h2 k (by omega)]

theorem q0l4 (g : Gm) (s t : Int × List (List Int)) (hg : q0fl g = true) : Fun Try.prog 179 [] [.t (.agg [.sh 5 (chunk q0lu g.nd), .sh 1 (g.w.map ints), .sh 1 (g.v.map ints)]), .t (.agg [.i s.1, .sh 1 (s.2.map ints)]), .t (.agg [.i t.1, .sh 1 (t.2.map ints)])] fun o r => o = [] /\ r = evO g s.2 t.2 := q0eq g s t hg
theorem q0sk {g : Gm} {s t : Int × List (List Int)} (hg : q0fl g = true) (hs : q0nw g s.2 0) (ht : q0nw g t.2 1) {i a b : Nat} (hi : i < g.nd.length) (ha : a < g.w.length) (hb : b < g.w.length) (h2 : (g.nd.getD i nd0).p ≠ 2) :
    Pure Try.prog 216 [q0ck g, q0tu s, q0tu t, .i i, .i a, .i b] (ints (chP g s.2 t.2 i a b)) := by
  obtain ⟨p1, p2, p3, p4, p5⟩ := q0fn hg
  obtain ⟨t1, t2, t3, t4⟩ := q0g0 p1
  obtain ⟨x, hx⟩ : ∃ x, g.nd[i]? = some x := ⟨_, List.getElem?_eq_getElem hi⟩
  have hxd : g.nd.getD i nd0 = x := by rw [List.getD_eq_getElem?_getD, hx]; rfl
  obtain ⟨⟨r1, r2⟩, _⟩ := q0ks (t2 _ _ hx)
  rw [hxd] at h2
  refine q0by (by simp) ?_
  have hcase : x.p = 0 ∨ x.p = 1 := by omega
  rcases hcase with h0 | h0
  · have hpd : (g.nd.getD i nd0).p = 0 := by rw [hxd]; exact h0
    have hrow := q0ny t2 (by decide) hs hi ha hpd
    have hrl := (List.getElem?_eq_some_iff.1 hrow).1
    rw [chP, if_pos hpd]
    simp -implicitDefEqProofs only [go_sem, evR, ints, rows, rat, rats, q050, q0ck, q0tu, nodes, q0ky hx, h0, show ((0 : Int) == 0) = true from rfl]
    refine ⟨by omega, by rw [q0l0]; omega, by rw [q0l0]; omega, ?_⟩
    refine q004.pure (q0ha hg hi hpd ha) [] rfl Try.call221 (fun e R' hR => ?_) (by first | trivial | simp [T.noSh, T.noShL, rat]) (fun _ => rfl) ?_
    · simp -implicitDefEqProofs only [agR, Nat.reduceLeDiff, Nat.reduceSub, vaR, go_sem, ints, rows, rat, rats, q0p1, rtR, intsO, q0qa]
    simp -implicitDefEqProofs only [go_sem, evR, ints, rows, rat, rats, hrow]
    omega
  · have hpd : (g.nd.getD i nd0).p = 1 := by rw [hxd]; exact h0
    have hrow := q0ny t2 (by decide) ht hi hb hpd
    have hrl := (List.getElem?_eq_some_iff.1 hrow).1
    rw [chP, if_neg (by omega)]
    simp -implicitDefEqProofs only [go_sem, evR, ints, rows, rat, rats, q050, q0ck, q0tu, nodes, q0ky hx, h0, show ((1 : Int) == 0) = false from rfl]
    refine ⟨by omega, by rw [q0l0]; omega, by rw [q0l0]; omega, ?_⟩
    refine q004.pure (q0ha hg hi hpd hb) [] rfl Try.call221 (fun e R' hR => ?_) (by first | trivial | simp [T.noSh, T.noShL, rat]) (fun _ => rfl) ?_
    · simp -implicitDefEqProofs only [agR, Nat.reduceLeDiff, Nat.reduceSub, vaR, go_sem, ints, rows, rat, rats, q0p1, rtR, intsO, q0qa]
    simp -implicitDefEqProofs only [go_sem, evR, ints, rows, rat, rats, hrow]
    omega
theorem q063 {g : Gm} {s t : Int × List (List Int)} (hg : q0fl g = true) (hs : q0nw g s.2 0) (ht : q0nw g t.2 1) {i a b : Nat} (hi : i < g.nd.length) (ha : a < g.w.length) (hb : b < g.w.length) (h2 : (g.nd.getD i nd0).p ≠ 2) :
    Pure Try.prog 216 [.agg [.sh 5 (chunk q0lu g.nd), .sh 1 (g.w.map ints), .sh 1 (g.v.map ints)], .agg [.i s.1, .sh 1 (s.2.map ints)], .agg [.i t.1, .sh 1 (t.2.map ints)], .i i, .i a, .i b] (ints (chP g s.2 t.2 i a b)) := q0sk hg hs ht hi ha hb h2
theorem q0h8 {g : Gm} (hg : q0fl g = true) (i a b : Nat) (hi : i < g.nd.length) (ha : a < g.w.length) (hb : b < g.w.length) : Pure Try.prog 215 [.agg [.sh 5 (chunk q0lu g.nd), .sh 1 (g.w.map ints), .sh 1 (g.v.map ints)], .i i, .i a, .i b] (.i (pay g i a b)) := q0se g hg i a b hi ha hb
theorem q0ue {g : Gm} {s t : Int × List (List Int)} {i a b p r : Int} (h : Pure Try.prog 183 [q0ck g, q0tu s, q0tu t, .i i, .i a, .i b, .i p] (.i r)) :
    Pure Try.prog 183 [.agg [.sh 5 (chunk q0lu g.nd), .sh 1 (g.w.map ints), .sh 1 (g.v.map ints)], .agg [.i s.1, .sh 1 (s.2.map ints)], .agg [.i t.1, .sh 1 (t.2.map ints)], .i i, .i a, .i b, .i p] (.i r) := h
theorem q0sn {g : Gm} {s t : Int × List (List Int)} (hg : q0fl g = true) (hs : q0nw g s.2 0) (ht : q0nw g t.2 1) {a b : Nat} (ha : a < g.w.length) (hb : b < g.w.length) : ∀ (f i p : Nat), g.nd.length <= i + f -> i < g.nd.length -> dep g.nd f i <= p -> p <= 5 →
    Pure Try.prog 183 [q0ck g, q0tu s, q0tu t, .i i, .i a, .i b, .i p] (.i (val g s.2 t.2 f i a b p)) := by
  obtain ⟨p1, p2, p3, p4, p5⟩ := q0fn hg
  obtain ⟨t1, t2, t3, t4⟩ := q0g0 p1
  have hpay := q0o0 t2
  intro f
  induction f with
  | zero => intro i p h1 h2; omega
  | succ f ih =>
    intro i p hf hi hdp hp5
    obtain ⟨x, hx⟩ : ∃ x, g.nd[i]? = some x := ⟨_, List.getElem?_eq_getElem hi⟩
    have hxd : g.nd.getD i nd0 = x := by rw [List.getD_eq_getElem?_getD, hx]; rfl
    have hxl := (q0ks (t2 _ _ hx)).2.2.2.2.2
    have hpw := q0oj hp5
    have hV2 : x.p = 2 -> val g s.2 t.2 (f + 1) i a b p = pay g i a b * pw p := fun h => by rw [val]; (try simp only []); rw [if_pos (by rw [hxd]; exact h)]
    have hV1 : x.p ≠ 2 -> ∀ n, x.ch.length <= n -> valK g s.2 t.2 f a b (p - 1) (chP g s.2 t.2 i a b) x.ch n = val g s.2 t.2 (f + 1) i a b p := fun h n hn => by
      have := q0xb (g := g) (s := s.2) (t := t.2) (f := f) (i := i) (a := a) (b := b) (p := p) (n := n) (by rw [hxd]; exact h) (by rw [hxd]; exact hn)
      rw [hxd] at this; exact this
    generalize val g s.2 t.2 (f + 1) i a b p = V' at hV2 hV1 ⊢
    refine q0c1 (by simp) ?_
    simp -implicitDefEqProofs only [go_sem, evR, ints, rows, rat, rats, q053, q0ck, q0tu, nodes, q0kw hx]
    refine ⟨by omega, by rw [q0l0]; omega, by rw [q0l0]; omega, ?_⟩
    refine ⟨fun h2 => ?_, fun h2 => ?_⟩
    · have h2 : x.p = 2 := by simpa using h2
      rw [hV2 h2]
      refine q006.pure (q0h8 hg i a b hi ha hb) [] rfl Try.call215 ?_ (by first | trivial | simp [T.noSh, T.noShL, rat]) rfl ?_
      · simp -implicitDefEqProofs only [agR, Nat.reduceLeDiff, Nat.reduceSub, vaR, go_sem, ints, rows, rat, rats, q0p1, rtR, intsO, q0qa]
      simp -implicitDefEqProofs only [go_sem, evR, ints, rows, rat, rats]
      refine q006.pure (q0sl p (by omega)) [] rfl Try.call157 ?_ (by first | trivial | simp [T.noSh, T.noShL, rat]) rfl ?_
      · simp -implicitDefEqProofs only [agR, Nat.reduceLeDiff, Nat.reduceSub, vaR, go_sem, ints, rows, rat, rats, q0p1, rtR, intsO, q0qa]
      simp -implicitDefEqProofs only [go_sem, evR, ints, rows, rat, rats]
      have q1 := hpay i a b
      have m1 := Int.mul_le_mul_of_nonneg_right q1.2 (show 0 <= pw p by omega)
      have m2 := Int.mul_le_mul_of_nonneg_right q1.1 (show 0 <= pw p by omega)
      rw [wrap64 (n := pay g i a b * pw p) (by omega) (by omega)]
    · have h2 : x.p ≠ 2 := by simpa using h2
      have hp2 : (g.nd.getD i nd0).p ≠ 2 := by rw [hxd]; exact h2
      obtain ⟨d1, d2⟩ := q07w (f := f) hp2
      rw [hxd] at d2
      have hch := q0kp (t2 _ _ hx)
      obtain ⟨c1, c2, c3⟩ := q061 t2 hs ht hi ha hb hp2
      rw [hxd] at c1
      obtain ⟨p', rfl⟩ : ∃ p', p = p' + 1 := ⟨p - 1, by omega⟩
      have hpw' := q0oj (show p' <= 5 by omega)
      have hcond : ∀ c ∈ x.ch, 0 <= c /\ c.toNat < g.nd.length /\ dep g.nd f c.toNat <= p' := fun c hc => by
        have h1 := hch c hc
        have h3 := d2 c hc
        omega
      refine q006.res (q063 hg hs ht hi ha hb hp2) [] rfl Try.call216 ?_ (.inl rfl) ?_
      · simp -implicitDefEqProofs only [agR, Nat.reduceLeDiff, Nat.reduceSub, vaR, go_sem, ints, rows, rat, rats, q0p1, rtR, intsO, q0qa]
      simp -implicitDefEqProofs only [clR, Nat.reduceLeDiff, go_sem, evR, rat, ints]
      rw [Nat.add_sub_cancel] at hV1
      generalize chP g s.2 t.2 i a b = q at hV1 c1 c2 c3 ⊢
      have hKA := q0xa t2 hs ht ha hb (f := f) c2 hcond
      refine SemC.loopR (σ := Nat) (fun k => St.of [(3, .t (.i i)), (4, .t (.i a)), (5, .t (.i b)), (6, .t (.i (p' + 1 : Nat))), (7, .own 7), (8, .own 8), (9, .own 9), (15, .own 15), (16, .t (ints q)), (17, .t (.i (valK g s.2 t.2 f a b p' q x.ch k))), (18, .t (.i k))] [(7, .box [nodes g.nd, rows g.w, rows g.v]), (8, .box [.i s.1, rows s.2]), (9, .box [.i t.1, rows t.2]), (15, .box [.i x.p, .i x.a, .i x.b, .i x.f, ints x.ch])]) (fun k => k <= q.length) (fun k => q.length - k) 0 (Weak.of _ _ [some 7, some 8, some 9, some 15] (by simp) (by simp) ?_ ?_) (by omega) fun k hk R hn hr he => ?_
      · simp -implicitDefEqProofs only [ints, rows, Nat.reduceBEq, wkR, Nat.reduceEqDiff, ↓reduceIte, wrR, nodes, show valK g s.2 t.2 f a b p' q x.ch 0 = 0 from rfl]
      · exact ⟨⟨_, rfl, .refl _⟩, rfl, ⟨_, rfl, .refl _⟩, rfl, ⟨_, rfl, .refl _⟩, rfl, ⟨_, rfl, .refl _⟩, rfl, trivial⟩
      · rcases Nat.lt_or_ge k q.length with h9 | h9
        · obtain ⟨y, hy⟩ : ∃ y, q[k]? = some y := ⟨_, List.getElem?_eq_getElem h9⟩
          obtain ⟨c, hc⟩ : ∃ c, x.ch[k]? = some c := ⟨_, List.getElem?_eq_getElem (by omega)⟩
          have hyb := c2 y (List.mem_of_getElem? hy)
          have hcb := hcond c (List.mem_of_getElem? hc)
          have hcb1 := hch c (List.mem_of_getElem? hc)
          have hsu := q12n (g := g) (s := s.2) (t := t.2) (f := f) (a := a) (b := b) (p := p') hy hc
          have k1 := hKA k (by omega) (by omega)
          have k2 := hKA (k + 1) (by omega) (by omega)
          have k3 : (k : Int) * (6000 * pw p') <= 4 * 4665600000000 := Int.mul_le_mul (by omega) (by omega) (by omega) (by decide)
          have k4 : ((k + 1 : Nat) : Int) * (6000 * pw p') <= 4 * 4665600000000 := Int.mul_le_mul (by omega) (by omega) (by omega) (by decide)
          have hcall := q0ue (ih c.toNat p' (by omega) hcb.2.1 hcb.2.2 (by omega))
          rw [show ((c.toNat : Nat) : Int) = c by omega] at hcall
          have hva := q12o t2 hs ht ha hb f c.toNat p' hcb.2.1 hcb.2.2
          obtain ⟨m1, m2⟩ := q0kl hyb.1 hva.1 hva.2
          have m3 : 100 * pw p' * y <= 77760000000 * 60 := Int.mul_le_mul (by omega) hyb.2 hyb.1 (by decide)
          simp -implicitDefEqProofs only [go_sem, evR, ints, rows, rat, rats, nodes, hy, hc, decide_eq_true (show (k : Int) < (x.ch.length : Int) by omega), wrap64 (n := (p' : Int)) (by omega) (by omega), show ((p' + 1 : Nat) : Int) - 1 = (p' : Int) by omega]
          refine ⟨by omega, by omega, by omega, by omega, by omega, by omega, ?_⟩
          refine q004.pure hcall [] rfl Try.call183 (fun e R' hR => ?_) (by first | trivial | simp [T.noSh, T.noShL, rat]) (fun _ => rfl) ?_
          · simp -implicitDefEqProofs only [agR, Nat.reduceLeDiff, Nat.reduceSub, vaR, go_sem, ints, rows, rat, rats, q0p1, rtR, intsO, q0qa]
          simp -implicitDefEqProofs only [go_sem, evR, ints, rows, rat, rats]
          refine hn _ (k + 1) (Weak.of _ _ [some 7, some 8, some 9, some 15] (by simp) (by simp) ?_ ?_) (by omega) (by omega)
          · simp -implicitDefEqProofs only [ints, rows, Nat.reduceBEq, wkR, Nat.reduceEqDiff, ↓reduceIte, wrR, nodes, q0lb h9 (by omega), wrap64 (n := y * val g s.2 t.2 f c.toNat a b p') (by omega) (by omega), ← hsu, wrap64 (n := valK g s.2 t.2 f a b p' q x.ch (k + 1)) (by omega) (by omega)]
          · exact ⟨⟨_, rfl, .refl _⟩, rfl, ⟨_, rfl, .refl _⟩, rfl, ⟨_, rfl, .refl _⟩, rfl, ⟨_, rfl, .refl _⟩, rfl, trivial⟩
        · simp -implicitDefEqProofs only [go_sem, evR, ints, rows, rat, rats, nodes, decide_eq_false (show ¬ (k : Int) < (x.ch.length : Int) by omega)]
          refine he _ _ ?_
          simp -implicitDefEqProofs only [go_sem, evR, ints, rows, rat, rats]
          rw [hV1 h2 k (by omega)]

end
end Go.Ab

/- Games as data: counts, regrets and sums of the iterations. -/
namespace Go.Ab

/-! Lists that are made new from the left. -/
def mixL {α : Type} (new old : List α) (i : Nat) : List α := new.take i ++ old.drop i
theorem q14w {α : Type} (new old : List α) : mixL new old 0 = old := by simp [mixL]
theorem q14s {α : Type} {new old : List α} (h : new.length = old.length) : mixL new old old.length = new := by simp [mixL, ← h]
theorem q14u {α : Type} {new old : List α} (h : new.length = old.length) {i : Nat} (hi : i <= old.length) : (mixL new old i).length = old.length := by simp [mixL]; omega
theorem q14t {α : Type} {new old : List α} (h : new.length = old.length) {i : Nat} (hi : i < old.length) : (mixL new old i)[i]? = old[i]? := by
  rw [mixL, List.getElem?_append_right (by simp; omega)]
  simp [List.length_take, h, Nat.min_eq_left (Nat.le_of_lt hi)]
theorem q14v {α : Type} {new old : List α} (h : new.length = old.length) {i : Nat} {y : α} (hy : new[i]? = some y) : (mixL new old i).set i y = mixL new old (i + 1) := by
  obtain ⟨hi, rfl⟩ := List.getElem?_eq_some_iff.1 hy
  have hl : (new.take i).length = i := by rw [List.length_take]; omega
  rw [mixL, mixL, List.set_append_right _ _ (by omega), hl, Nat.sub_self, List.drop_eq_getElem_cons (show i < old.length by omega), List.set_cons_zero, List.take_add_one, hy, Option.toList_some, List.append_assoc]; rfl
def sgn (pl : Int) : Int := if pl = 0 then 1 else -1
def wAt (g : Gm) (pl : Int) (c o : Nat) : Int := if pl = 0 then (g.w.getD c []).getD o 0 else (g.w.getD o []).getD c 0
def vAt (g : Gm) (s t : List (List Int)) (pl : Int) (kid c o p : Nat) : Int := if pl = 0 then val g s t g.nd.length kid c o p else val g s t g.nd.length kid o c p
def q144 (g : Gm) (n : Nat) : Nat := (dep g.nd g.nd.length n).toNat - 1
def rchW (g : Gm) (s t : List (List Int)) (pl : Int) (n c o : Nat) : Int := sgn pl * wAt g pl c o * wayP g (otOf pl s t) (1 - pl) o n
def cntF (g : Gm) (s t : List (List Int)) (pl : Int) (n c kid o : Nat) : Int := rchW g s t pl n c o * vAt g s t pl kid c o (q144 g n)
def cntN (g : Gm) (s t : List (List Int)) (pl : Int) (n c kid m : Nat) : Int := sumI ((List.range m).map (cntF g s t pl n c kid))
def cnts (g : Gm) (s t : List (List Int)) (pl : Int) (n c : Nat) : List Int := (g.nd.getD n nd0).ch.map fun k => cntN g s t pl n c k.toNat g.w.length
theorem q148 (g : Gm) (s t : List (List Int)) (pl : Int) (n c kid m : Nat) : cntN g s t pl n c kid (m + 1) = cntN g s t pl n c kid m + cntF g s t pl n c kid m := q0u6 _ _
theorem q14b (g : Gm) (s t : List (List Int)) (pl : Int) (n c : Nat) : (cnts g s t pl n c).length = (g.nd.getD n nd0).ch.length := by simp [cnts]
theorem q14a {g : Gm} {s t : List (List Int)} {pl : Int} {n c k : Nat} {x : Int} (h : (g.nd.getD n nd0).ch[k]? = some x) : (cnts g s t pl n c)[k]? = some (cntN g s t pl n c x.toNat g.w.length) := by rw [cnts, List.getElem?_map, h]; rfl
def q14m (q C : List Int) (k : Nat) : Int := sumI ((List.zipWith (fun x y => x * y) q C).take k)
theorem q14p (q C : List Int) : q14m q C 0 = 0 := rfl
theorem q14o {q C : List Int} {k : Nat} {x y : Int} (hx : q[k]? = some x) (hy : C[k]? = some y) : q14m q C (k + 1) = q14m q C k + x * y := by
  unfold q14m
  have h : (List.zipWith (fun x y => x * y) q C)[k]? = some (x * y) := by rw [List.getElem?_zipWith, hx, hy]
  rw [List.take_add_one, h, Option.toList_some, q0u7]
def q14l (q C : List Int) : Int := q14m q C C.length
def updR (r C : List Int) (M : Int) : List Int := List.zipWith (fun x y => x + (60 * y - M)) r C
def updW (s q : List Int) (w : Int) : List Int := List.zipWith (fun x y => x + w * y) s q
theorem q15t {r C : List Int} {M : Int} {k : Nat} {x y : Int} (hx : r[k]? = some x) (hy : C[k]? = some y) : (updR r C M)[k]? = some (x + (60 * y - M)) := by rw [updR, List.getElem?_zipWith, hx, hy]
theorem q15v {s q : List Int} {w : Int} {k : Nat} {x y : Int} (hx : s[k]? = some x) (hy : q[k]? = some y) : (updW s q w)[k]? = some (x + w * y) := by rw [updW, List.getElem?_zipWith, hx, hy]
theorem q15u {r C : List Int} {M : Int} (h : r.length = C.length) : (updR r C M).length = r.length := by rw [updR, List.length_zipWith]; omega
theorem q15w {s q : List Int} {w : Int} (h : s.length = q.length) : (updW s q w).length = s.length := by rw [updW, List.length_zipWith]; omega
def setN (g : Gm) (pl : Int) (i : Nat) : Nat := (((sets g pl).getD i []).getD 0 0).toNat
def setC (g : Gm) (pl : Int) (i : Nat) : Nat := (((sets g pl).getD i []).getD 1 0).toNat
theorem q15l {g : Gm} {pl : Int} {i : Nat} (h : i < (sets g pl).length) : (sets g pl)[i]? = some [(setN g pl i : Int), (setC g pl i : Int)] /\ setN g pl i < g.nd.length /\ setC g pl i < g.w.length /\ (g.nd.getD (setN g pl i) nd0).p = pl /\ q0rh g pl i = (g.nd.getD (setN g pl i) nd0).ch.length /\ setI g pl (setN g pl i) (setC g pl i) = i := by
  obtain ⟨n, c, x, h1, h2, h3, h4, h5, h6⟩ := q0qz h
  have e1 : setN g pl i = n := by unfold setN; rw [List.getD_eq_getElem?_getD (l := sets g pl), h1]; simp
  have e2 : setC g pl i = c := by unfold setC; rw [List.getD_eq_getElem?_getD (l := sets g pl), h1]; simp
  have e3 : g.nd.getD n nd0 = x := by rw [List.getD_eq_getElem?_getD, h2]; rfl
  rw [e1, e2, e3]
  refine ⟨h1, h3, h4, h5, h6, ?_⟩
  have hg := q0rd (g := g) (pl := pl) h3 h4 (by rw [e3]; exact h5)
  obtain ⟨n', c', hn', hc', hp', he, _⟩ := q11p h
  have hg' := q0rd (g := g) (pl := pl) hn' hc' hp'
  rw [← he, h1] at hg'
  simp at hg'
  obtain ⟨a1, a2⟩ := hg'
  have a1 : n = n' := by omega
  have a2 : c = c' := by omega
  rw [a1, a2]; exact he.symm
def rowR (g : Gm) (s t : List (List Int)) (pl : Int) (R : List (List Int)) (i : Nat) : List Int :=
  updR (R.getD i []) (cnts g s t pl (setN g pl i) (setC g pl i)) (q14l ((q10l pl s t).getD i []) (cnts g s t pl (setN g pl i) (setC g pl i)))
def rowS (g : Gm) (s t : List (List Int)) (pl : Int) (S : List (List Int)) (i : Nat) : List Int :=
  updW (S.getD i []) ((q10l pl s t).getD i []) (wayP g (q10l pl s t) pl (setC g pl i) (setN g pl i))
def q14y (g : Gm) (s t : List (List Int)) (pl : Int) (R : List (List Int)) : List (List Int) := (List.range (sets g pl).length).map (rowR g s t pl R)
def q14z (g : Gm) (s t : List (List Int)) (pl : Int) (S : List (List Int)) : List (List Int) := (List.range (sets g pl).length).map (rowS g s t pl S)
def posL (l : List Int) : List Int := l.map fun x => max 0 x
def rowP (l : List Int) : List Int := ham (hvd 34 (posL l))
def stM (m : List (List Int)) : List (List Int) := m.map rowP
structure RS where
  r0 : List (List Int)
  r1 : List (List Int)
  s0 : List (List Int)
  s1 : List (List Int)
def q15q (g : Gm) (x : RS) : RS := ⟨q14y g (stM x.r0) (stM x.r1) 0 x.r0, q14y g (stM x.r0) (stM x.r1) 1 x.r1, q14z g (stM x.r0) (stM x.r1) 0 x.s0, q14z g (stM x.r0) (stM x.r1) 1 x.s1⟩
def q15z (g : Gm) (pl : Int) : List (List Int) := (List.range (sets g pl).length).map fun i => List.replicate (q0rh g pl i) 0
def q15i (g : Gm) : Nat -> RS
  | 0 => ⟨q15z g 0, q15z g 1, q15z g 0, q15z g 1⟩
  | n + 1 => q15q g (q15i g n)
def okM (g : Gm) (pl : Int) (B : Int) (m : List (List Int)) : Prop := m.length = (sets g pl).length /\ ∀ i r, m[i]? = some r -> r.length = q0rh g pl i /\ ∀ x ∈ r, -B <= x /\ x <= B
theorem q150 {g : Gm} {pl B : Int} {m : List (List Int)} (h : okM g pl B m) {i : Nat} (hi : i < (sets g pl).length) : ∃ r, m[i]? = some r /\ m.getD i [] = r /\ r.length = q0rh g pl i /\ ∀ x ∈ r, -B <= x /\ x <= B := by
  have hx : m[i]? = some (m[i]'(by rw [h.1]; exact hi)) := List.getElem?_eq_getElem _
  exact ⟨_, hx, by rw [List.getD_eq_getElem?_getD, hx]; rfl, h.2 i _ hx⟩
theorem q151 {g : Gm} {pl B : Int} {F : Nat -> List Int} (h : ∀ i, i < (sets g pl).length -> (F i).length = q0rh g pl i /\ ∀ x ∈ F i, -B <= x /\ x <= B) : okM g pl B ((List.range (sets g pl).length).map F) := by
  refine ⟨by simp, fun i r hr => ?_⟩
  have hi : i < (sets g pl).length := by have := (List.getElem?_eq_some_iff.1 hr).1; simpa using this
  rw [List.getElem?_map, List.getElem?_range hi, Option.map_some, Option.some.injEq] at hr
  rw [← hr]; exact h i hi
theorem q160 (g : Gm) (pl : Int) : okM g pl 0 (q15z g pl) := q151 fun i _ => ⟨by simp, fun x hx => by rw [List.eq_of_mem_replicate hx]; omega⟩

/-! Bounds. -/
theorem q156 (a b : Nat) : pw (a + b) = pw a * pw b := by rw [pw, pw, pw, Int.pow_add]
theorem q145 {g : Gm} (hg : q0fl g = true) {n : Nat} (hn : n < g.nd.length) (h2 : (g.nd.getD n nd0).p ≠ 2) : (wayL g.nd n).length + q144 g n <= 4 /\ dep g.nd g.nd.length n = (q144 g n : Int) + 1 /\ ∀ k, k ∈ (g.nd.getD n nd0).ch -> 0 <= k /\ k.toNat < g.nd.length /\ dep g.nd g.nd.length k.toNat <= q144 g n := by
  obtain ⟨p1, p2, p3, p4, p5⟩ := q0fn hg
  obtain ⟨t1, t2, t3, t4⟩ := q0g0 p1
  have hx : g.nd[n]? = some (g.nd.getD n nd0) := by rw [List.getD_eq_getElem?_getD, List.getElem?_eq_getElem hn]; rfl
  have hch := q0kp (t2 n _ hx)
  obtain ⟨F, hF⟩ : ∃ F, g.nd.length = F + 1 := ⟨g.nd.length - 1, by omega⟩
  obtain ⟨d1, d2⟩ := q07w (l := g.nd) (f := F) (i := n) h2
  rw [← hF] at d1 d2
  have hw := q12u t2 t3 n n (Nat.le_refl _) hn
  have hb : dep g.nd g.nd.length n = (q144 g n : Int) + 1 := by unfold q144; omega
  refine ⟨by omega, hb, fun k hk => ?_⟩
  have h1 := hch k hk
  have h3 := d2 k hk
  rw [q07y t2 F g.nd.length k.toNat (by omega) (by omega)] at h3
  exact ⟨by omega, by omega, by omega⟩
theorem q15y {g : Gm} (hg : q0fl g = true) (pl : Int) (c o : Nat) : 0 <= wAt g pl c o /\ wAt g pl c o <= 9 := by
  obtain ⟨_, _, h3, _⟩ := q0fo hg
  unfold wAt
  split
  · exact q0xh h3 c o
  · exact q0xh h3 o c
theorem q159 {g : Gm} {s t : List (List Int)} {pl : Int} {n c o : Nat} (h : wAt g pl c o = 0) : rchW g s t pl n c o = 0 := by rw [rchW, h, Int.mul_zero, Int.zero_mul]
theorem q153 {g : Gm} {s t : List (List Int)} (hs : q0nw g s 0) (ht : q0nw g t 1) {pl : Int} (hpl : pl = 0 ∨ pl = 1) : q0nw g (q10l pl s t) pl /\ q0nw g (otOf pl s t) (1 - pl) := by
  rcases hpl with rfl | rfl
  · exact ⟨hs, ht⟩
  · exact ⟨ht, hs⟩
theorem q158 {g : Gm} (hg : q0fl g = true) {s t : List (List Int)} (hs : q0nw g s 0) (ht : q0nw g t 1) {pl : Int} (hpl : pl = 0 ∨ pl = 1) {n c o : Nat} (hn : n < g.nd.length) (ho : o < g.w.length) :
    -(9 * pw (wayL g.nd n).length) <= rchW g s t pl n c o /\ rchW g s t pl n c o <= 9 * pw (wayL g.nd n).length := by
  obtain ⟨p1, p2, p3, p4, p5⟩ := q0fn hg
  obtain ⟨t1, t2, t3, t4⟩ := q0g0 p1
  obtain ⟨w1, w2⟩ := q15y hg pl c o
  obtain ⟨b1, b2⟩ := q12q (c := o) t2 t3 (q153 hs ht hpl).2 ho n n (Nat.le_refl _) hn
  have hm : wAt g pl c o * wayP g (otOf pl s t) (1 - pl) o n <= 9 * pw (wayL g.nd n).length := Int.mul_le_mul w2 b2 b1 (by decide)
  have hm0 := Int.mul_nonneg w1 b1
  unfold rchW sgn
  split
  · rw [Int.one_mul]; omega
  · rw [Int.neg_one_mul, Int.neg_mul]; omega
theorem q141 {x y a b : Int} (hx : -a <= x /\ x <= a) (hy : -b <= y /\ y <= b) : -(a * b) <= x * y /\ x * y <= a * b := by
  have hb : 0 <= b := by omega
  rcases Int.le_total 0 x with h | h
  · obtain ⟨m1, m2⟩ := q0kl h hy.1 hy.2
    have m3 : b * x <= b * a := Int.mul_le_mul_of_nonneg_left hx.2 hb
    rw [Int.mul_comm a b]; omega
  · obtain ⟨m1, m2⟩ := q0kl (x := -x) (by omega) hy.1 hy.2
    have m3 : b * -x <= b * a := Int.mul_le_mul_of_nonneg_left (by omega) hb
    rw [Int.neg_mul] at m1 m2
    rw [Int.mul_comm a b]; omega
theorem q15x {g : Gm} (hg : q0fl g = true) {s t : List (List Int)} (hs : q0nw g s 0) (ht : q0nw g t 1) {pl : Int} {k c o p : Nat} (hc : c < g.w.length) (ho : o < g.w.length) (hk : k < g.nd.length) (hd : dep g.nd g.nd.length k <= p) : -(100 * pw p) <= vAt g s t pl k c o p /\ vAt g s t pl k c o p <= 100 * pw p := by
  obtain ⟨p1, p2, p3, p4, p5⟩ := q0fn hg
  obtain ⟨t1, t2, t3, t4⟩ := q0g0 p1
  unfold vAt
  split
  · exact q12o t2 hs ht hc ho _ _ _ hk hd
  · exact q12o t2 hs ht ho hc _ _ _ hk hd
theorem q157 {p : Nat} (h : p <= 4) : 1 <= pw p /\ pw p <= 12960000 := by
  have : p = 0 ∨ p = 1 ∨ p = 2 ∨ p = 3 ∨ p = 4 := by omega
  rcases this with rfl | rfl | rfl | rfl | rfl <;> decide
theorem q146 {g : Gm} (hg : q0fl g = true) {s t : List (List Int)} (hs : q0nw g s 0) (ht : q0nw g t 1) {pl : Int} (hpl : pl = 0 ∨ pl = 1) {n c o : Nat} (hn : n < g.nd.length) (h2 : (g.nd.getD n nd0).p ≠ 2) (hc : c < g.w.length) (ho : o < g.w.length) {k : Int} (hk : k ∈ (g.nd.getD n nd0).ch) :
    -11664000000 <= cntF g s t pl n c k.toNat o /\ cntF g s t pl n c k.toNat o <= 11664000000 := by
  obtain ⟨e1, e2, e3⟩ := q145 hg hn h2
  obtain ⟨k1, k2, k3⟩ := e3 k hk
  have h := q141 (q158 (c := c) hg hs ht hpl hn ho) (q15x (pl := pl) hg hs ht hc ho k2 k3)
  have hp : 9 * pw (wayL g.nd n).length * (100 * pw (q144 g n)) = 900 * pw ((wayL g.nd n).length + q144 g n) := by
    rw [q156]; grind
  have hq := q157 e1
  rw [hp] at h
  unfold cntF; omega
theorem q147 {g : Gm} (hg : q0fl g = true) {s t : List (List Int)} (hs : q0nw g s 0) (ht : q0nw g t 1) {pl : Int} (hpl : pl = 0 ∨ pl = 1) {n c : Nat} (hn : n < g.nd.length) (h2 : (g.nd.getD n nd0).p ≠ 2) (hc : c < g.w.length) {k : Int} (hk : k ∈ (g.nd.getD n nd0).ch) {m : Nat} (hm : m <= g.w.length) :
    -69984000000 <= cntN g s t pl n c k.toNat m /\ cntN g s t pl n c k.toNat m <= 69984000000 := by
  obtain ⟨p1, p2, p3, p4, p5⟩ := q0fn hg
  have h := q0u5 (G := cntF g s t pl n c k.toNat) (n := m) (c := 11664000000) fun o ho => q146 hg hs ht hpl hn h2 hc (by omega) hk
  unfold cntN; omega
theorem q149 {g : Gm} (hg : q0fl g = true) {s t : List (List Int)} (hs : q0nw g s 0) (ht : q0nw g t 1) {pl : Int} (hpl : pl = 0 ∨ pl = 1) {n c : Nat} (hn : n < g.nd.length) (h2 : (g.nd.getD n nd0).p ≠ 2) (hc : c < g.w.length) : ∀ y ∈ cnts g s t pl n c, -69984000000 <= y /\ y <= 69984000000 := by
  intro y hy
  obtain ⟨k, hk, rfl⟩ := List.mem_map.1 hy
  exact q147 hg hs ht hpl hn h2 hc hk (Nat.le_refl _)
theorem q14n {q C : List Int} (hq : ∀ x ∈ q, 0 <= x /\ x <= 60) (hC : ∀ y ∈ C, -69984000000 <= y /\ y <= 69984000000) : ∀ k, -(k * 4199040000000) <= q14m q C k /\ q14m q C k <= k * 4199040000000
  | 0 => by simp [q14m, sumI]
  | k + 1 => by
    have ih := q14n hq hC k
    cases hx : q[k]? with
    | none =>
      have : q14m q C (k + 1) = q14m q C k := by
        unfold q14m
        have h : (List.zipWith (fun x y => x * y) q C)[k]? = none := by rw [List.getElem?_zipWith, hx]
        rw [List.take_add_one, h]; simp
      rw [this]; omega
    | some x =>
      cases hy : C[k]? with
      | none =>
        have : q14m q C (k + 1) = q14m q C k := by
          unfold q14m
          have h : (List.zipWith (fun x y => x * y) q C)[k]? = none := by rw [List.getElem?_zipWith, hx, hy]
          rw [List.take_add_one, h]; simp
        rw [this]; omega
      | some y =>
        rw [q14o hx hy]
        have h1 := hq x (List.mem_of_getElem? hx)
        have h2 := hC y (List.mem_of_getElem? hy)
        obtain ⟨m1, m2⟩ := q0kl h1.1 h2.1 h2.2
        omega
end Go.Ab

/- Contracts: where a number stands first; products along a way. -/
namespace Go.Ab
open Go.Proofs
theorem q0rr (r : List Int) (hr : r.length <= 1000000) (x : Int) (hx : x ∈ r) : Pure Try.prog 117 [ints r, .i x] (.i (ixOf x r : Nat)) := by
  refine q0be (by simp) ?_
  simp -implicitDefEqProofs only [go_sem, evR, ints, rows, rat, rats, q04g]
  refine SemC.loopR (σ := Nat) (fun i => St.of [(0, .t (ints r)), (1, .t (.i x)), (7, .t (.i r.length)), (8, .t (.i i))] []) (fun i => i <= ixOf x r) (fun i => r.length - i) 0 (Weak.of _ [] [] (by simp) (by simp) ?_ trivial) (by omega) fun i hi R hn hr' he => ?_
  · simp -implicitDefEqProofs only [ints, rows, Nat.reduceBEq, wkR, Nat.reduceEqDiff, ↓reduceIte, wrR]
  · simp -implicitDefEqProofs only [go_sem, evR, ints, rows, rat, rats]
    have hg := q109 hx
    have hml := (List.getElem?_eq_some_iff.1 hg).1
    refine ⟨fun h => ⟨by omega, by omega, by omega, fun y hy => ⟨fun hc => hr' _ ?_, fun hc => ?_⟩⟩, fun h => by omega⟩
    · have hc : x = y := by simpa using hc
      have e : i = ixOf x r := by
        have := q10a (hc ▸ hy : r[i]? = some x)
        omega
      simp -implicitDefEqProofs only [go_sem, evR, ints, rows, rat, rats]
      rw [← e]
    · have hne : i ≠ ixOf x r := by
        intro e
        rw [← e, hy] at hg
        injection hg with hg
        simp [hg] at hc
      refine hn _ (i + 1) (Weak.of _ [] [] (by simp) (by simp) ?_ trivial) (by omega) (by omega)
      simp -implicitDefEqProofs only [ints, rows, Nat.reduceBEq, wkR, Nat.reduceEqDiff, ↓reduceIte, wrR, q0lb (by omega : i < r.length) (by omega)]
section
attribute [-go_sem] q0i5 q0id fldC lenC idxC q0ip q0lp
theorem q0sc {l : List Nd} (h : q0l2 l) (ho : q10t l) (hl : l.length <= 60) : ∀ (f n : Nat), n <= f -> n < l.length -> Fun Try.prog 225 [] [.t (.agg [.sh 5 (chunk q0lu l)]), .t (.i n)] fun o r => o = [] /\ r = intsO (wayL l n) := by
  intro f
  induction f with
  | zero =>
    intro n h1 hn
    obtain rfl : n = 0 := by omega
    refine q0br (by simp) ?_
    simp -implicitDefEqProofs only [go_sem, evR, ints, rows, rat, rats, q04t, nodes, show (((0 : Nat) : Int) == 0) = true from rfl]
    rfl
  | succ f ih =>
    intro n h1 hn
    by_cases hz : n = 0
    · subst hz
      refine q0br (by simp) ?_
      simp -implicitDefEqProofs only [go_sem, evR, ints, rows, rat, rats, q04t, nodes, show (((0 : Nat) : Int) == 0) = true from rfl]
      rfl
    · have hu := q12k h ho (by omega) hn
      have hpg := q118 h ho (by omega) hn
      have hku := q10e h ho (j := n) (by omega) hn
      have hwu := q12v h ho (j := n) (by omega) hn
      have hpl := (List.getElem?_eq_some_iff.1 hpg).1
      refine q0br (by simp) ?_
      simp -implicitDefEqProofs only [go_sem, evR, ints, rows, rat, rats, q04t, nodes, show ((n : Int) == 0) = false by simp; omega]
      refine SemC.loopR (σ := Nat) (fun i => St.of [(1, .t (.i n)), (2, .own 2), (5, .t (.i i))] [(2, .box [nodes l])]) (fun i => i <= upN l n) (fun i => n - i) 0 (Weak.of _ _ [some 2] (by simp) (by simp) ?_ ?_) (by omega) fun i hi R hn1 hr he => ?_
      · simp -implicitDefEqProofs only [ints, rows, Nat.reduceBEq, wkR, Nat.reduceEqDiff, ↓reduceIte, wrR, nodes]
      · exact ⟨⟨_, rfl, .refl _⟩, rfl, trivial⟩
      obtain ⟨x, hx⟩ : ∃ x, l[i]? = some x := ⟨_, List.getElem?_eq_getElem (by omega)⟩
      have hxd : l.getD i nd0 = x := by rw [List.getD_eq_getElem?_getD, hx]; rfl
      have hxl := (q0ks (h _ _ hx)).2.2.2.2.2
      simp -implicitDefEqProofs only [go_sem, evR, ints, rows, rat, rats, nodes, decide_eq_true (show (i : Int) < (n : Int) by omega)]
      refine SemC.loopR (σ := Nat) (fun k => St.of [(1, .t (.i n)), (2, .own 2), (5, .t (.i i)), (6, .t (.i k))] [(2, .box [nodes l])]) (fun k => k <= x.ch.length /\ (i = upN l n -> k <= plc l n)) (fun k => x.ch.length - k) 0 (Weak.of _ _ [some 2] (by simp) (by simp) ?_ ?_) ⟨by omega, fun _ => by omega⟩ fun k hk R2 hn2 hr2 he2 => ?_
      · simp -implicitDefEqProofs only [ints, rows, Nat.reduceBEq, wkR, Nat.reduceEqDiff, ↓reduceIte, wrR, nodes]
      · exact ⟨⟨_, rfl, .refl _⟩, rfl, trivial⟩
      rcases Nat.lt_or_ge k x.ch.length with h9 | h9
      · obtain ⟨y, hy⟩ : ∃ y, x.ch[k]? = some y := ⟨_, List.getElem?_eq_getElem h9⟩
        by_cases hyn : y = n
        · have hki : q107 l i n := q10c h (by omega) (by rw [hxd]; exact hyn ▸ List.mem_of_getElem? hy)
          have hiu : i = upN l n := (q12j h ho hki).symm
          have hkp : k = plc l n := by
            have a := hk.2 hiu
            have b : plc l n <= k := q10a (by rw [← hiu, hxd, hy, hyn])
            omega
          have hp := ih i (by omega) (by omega)
          simp only [intsO] at hp
          simp -implicitDefEqProofs only [go_sem, evR, ints, rows, rat, rats, nodes, q0kz hx, hy, decide_eq_true (show (k : Int) < (x.ch.length : Int) by omega), show (y == (n : Int)) = true by simp [hyn]]
          repeat (first | refine ⟨by omega, ?_⟩ | refine ⟨by rw [q0l0]; omega, ?_⟩)
          have hwd := q12u h ho i i (Nat.le_refl _) (by omega)
          have hd0 := (q07x (l := l) l.length 0).2
          have hdi := (q07x (l := l) l.length i).1
          refine q006.res hp [] rfl Try.call225 ?_ (.inl rfl) ?_
          · simp -implicitDefEqProofs only [agR, Nat.reduceLeDiff, Nat.reduceSub, vaR, go_sem, ints, rows, rat, rats, q0p1, rtR, intsO, q0qa]
          simp -implicitDefEqProofs only [clR, Nat.reduceLeDiff, go_sem, evR, rat]
          refine ⟨by omega, hr2 _ (hr _ ?_)⟩
          simp -implicitDefEqProofs only [go_sem, evR, ints, rows, rat, rats]
          rw [hwu, ← hiu, ← hkp, intsO, List.map_append]
          rfl
        · simp -implicitDefEqProofs only [go_sem, evR, ints, rows, rat, rats, nodes, q0kz hx, hy, decide_eq_true (show (k : Int) < (x.ch.length : Int) by omega), show (y == (n : Int)) = false by simp [hyn]]
          repeat (first | refine ⟨by omega, ?_⟩ | refine ⟨by rw [q0l0]; omega, ?_⟩)
          refine hn2 _ (k + 1) (Weak.of _ _ [some 2] (by simp) (by simp) ?_ ?_) ⟨by omega, fun e => ?_⟩ (by omega)
          · simp -implicitDefEqProofs only [ints, rows, Nat.reduceBEq, wkR, Nat.reduceEqDiff, ↓reduceIte, wrR, nodes, q0lb h9 (by omega)]
          · exact ⟨⟨_, rfl, .refl _⟩, rfl, trivial⟩
          · have a := hk.2 e
            rcases Nat.lt_or_ge k (plc l n) with b | b
            · omega
            · have : k = plc l n := by omega
              rw [← e, hxd, ← this, hy] at hpg
              injection hpg with hpg
              exact absurd hpg hyn
      · simp -implicitDefEqProofs only [go_sem, evR, ints, rows, rat, rats, nodes, q0kz hx, decide_eq_false (show ¬ (k : Int) < (x.ch.length : Int) by omega)]
        repeat (first | refine ⟨by omega, ?_⟩ | refine ⟨by rw [q0l0]; omega, ?_⟩)
        refine he2 _ _ ?_
        simp -implicitDefEqProofs only [go_sem, evR, ints, rows, rat, rats]
        have hne : i ≠ upN l n := fun e => by
          have a := hk.2 e
          rw [← e, hxd] at hpl
          omega
        refine hn1 _ (i + 1) (Weak.of _ _ [some 2] (by simp) (by simp) ?_ ?_) (by omega) (by omega)
        · simp -implicitDefEqProofs only [ints, rows, Nat.reduceBEq, wkR, Nat.reduceEqDiff, ↓reduceIte, wrR, nodes, q0lb (show i < l.length by omega) (by omega)]
        · exact ⟨⟨_, rfl, .refl _⟩, rfl, trivial⟩
theorem q0sy {g : Gm} (hg : q0fl g = true) {S : List (List Int)} {pl : Int} (hpl : pl = 0 ∨ pl = 1) (hS : q0nw g S pl) {c n : Nat} (hc : c < g.w.length) (hn : n < g.nd.length) : Pure Try.prog 209 [.agg [.sh 5 (chunk q0lu g.nd), .sh 1 (g.w.map ints), .sh 1 (g.v.map ints)], .agg [.i pl, .sh 1 (S.map ints)], .i n, .i c] (.i (wayP g S pl c n)) := by
  obtain ⟨p1, p2, p3, p4, p5⟩ := q0fn hg
  obtain ⟨t1, t2, t3, t4⟩ := q0g0 p1
  obtain ⟨a1, a2, a3, a4⟩ := q0y3 t2 t3 n n (Nat.le_refl _) hn
  have hwd := q12u t2 t3 n n (Nat.le_refl _) hn
  have hdn := (q07x (l := g.nd) g.nd.length n).1
  refine q0cb (by simp) ?_
  simp -implicitDefEqProofs only [go_sem, evR, ints, rows, rat, rats, q05d]
  have hp := q0sc t2 t3 t1.2 n n (Nat.le_refl _) hn
  simp only [intsO] at hp
  refine q006.res hp [] rfl Try.call225 ?_ (.inl rfl) ?_
  · simp -implicitDefEqProofs only [agR, Nat.reduceLeDiff, Nat.reduceSub, vaR, go_sem, ints, rows, rat, rats, q0p1, rtR, intsO, q0qa]
  simp -implicitDefEqProofs only [clR, Nat.reduceLeDiff, go_sem, evR, rat]
  refine SemC.loopR (σ := Nat × Nat) (fun s => St.of [(3, .t (.i c)), (4, .own 4), (5, .own 5), (9, .own 16), (10, .t (.i s.2)), (11, .t (.i (wayP g S pl c s.2))), (12, .t (.i s.1))] [(4, .box [nodes g.nd, rows g.w, rows g.v]), (5, .box [.i pl, rows S]), (16, intsO (wayL g.nd n))]) (fun s => s.1 <= (wayL g.nd n).length /\ (ancL g.nd n)[s.1]? = some s.2 /\ s.2 < g.nd.length) (fun s => (wayL g.nd n).length - s.1) (0, 0) (Weak.of _ _ [some 4, some 5, some 16] (by simp) (by simp) ?_ ?_) ⟨by omega, a2, by omega⟩ fun s hI R hn1 hr he => ?_
  · simp -implicitDefEqProofs only [ints, rows, Nat.reduceBEq, wkR, Nat.reduceEqDiff, ↓reduceIte, wrR, nodes, q12s]
  · exact ⟨⟨_, rfl, .refl _⟩, rfl, ⟨_, rfl, .refl _⟩, rfl, ⟨_, rfl, .refl _⟩, rfl, trivial⟩
  obtain ⟨i, u⟩ := s
  obtain ⟨hi, hau, hul⟩ := hI
  (try simp only [] at hi hau hul)
  (try simp only [])
  rcases Nat.lt_or_ge i (wayL g.nd n).length with h9 | h9
  · obtain ⟨m, m1, m2, m3, m4, m5⟩ := a4 i h9
    have hum : u = upN g.nd m := by rw [hau] at m4; exact Option.some.inj m4
    obtain ⟨x, hx⟩ : ∃ x, g.nd[u]? = some x := ⟨_, List.getElem?_eq_getElem hul⟩
    have hxd : g.nd.getD u nd0 = x := by rw [List.getD_eq_getElem?_getD, hx]; rfl
    have hku := q10e t2 t3 m2 m3
    have hpg := q118 t2 t3 m2 m3
    rw [← hum, hxd] at hpg
    have hwp := q12r (S := S) (pl := pl) (c := c) t2 t3 m2 m3
    rw [← hum, hxd] at hwp
    obtain ⟨b1, b2⟩ := q12q t2 t3 hS hc m m (Nat.le_refl _) m3
    have hwm := q12u t2 t3 m m (Nat.le_refl _) m3
    have hdm := (q07x (l := g.nd) g.nd.length m).1
    have hpw := q0oj (p := (wayL g.nd m).length) (by omega)
    by_cases hxp : x.p = pl
    · have hpd : (g.nd.getD u nd0).p = pl := by rw [hxd]; exact hxp
      have hrow := q0ny t2 (by omega) hS hul hc hpd
      have hrl := (hS u c hul hc hpd).1
      have hrl2 := (List.getElem?_eq_some_iff.1 hrow).1
      rw [hxd] at hrl
      have hpl1 := (List.getElem?_eq_some_iff.1 hpg).1
      obtain ⟨y, hy⟩ : ∃ y, (partsOf g S pl u c)[plc g.nd m]? = some y := ⟨_, List.getElem?_eq_getElem (by omega)⟩
      rw [if_pos hxp, List.getD_eq_getElem?_getD, hy, Option.getD_some] at hwp
      simp -implicitDefEqProofs only [go_sem, evR, ints, rows, rat, rats, nodes, intsO, q0ky hx, m5, decide_eq_true (show (i : Int) < ((wayL g.nd n).length : Int) by omega), show (x.p == pl) = true by simp [hxp]]
      repeat (first | refine ⟨by omega, ?_⟩ | refine ⟨by rw [q0l0]; omega, ?_⟩)
      refine q004.pure (q0ha hg hul hpd hc) [] rfl Try.call221 (fun e R' hR => ?_) (by first | trivial | simp [T.noSh, T.noShL, rat]) (fun _ => rfl) ?_
      · simp -implicitDefEqProofs only [agR, Nat.reduceLeDiff, Nat.reduceSub, vaR, go_sem, ints, rows, rat, rats, q0p1, rtR, intsO, q0qa]
      simp -implicitDefEqProofs only [go_sem, evR, ints, rows, rat, rats, nodes, intsO, hrow, m5, hy, q0kz hx, hpg]
      repeat (first | refine ⟨by omega, ?_⟩ | refine ⟨by rw [q0l0]; omega, ?_⟩)
      refine hn1 _ (i + 1, m) (Weak.of _ _ [some 4, some 5, some 16] (by simp) (by simp) ?_ ?_) ⟨by show i + 1 <= _; omega, m1, m3⟩ (by show _ - (i + 1) < _ - i; omega)
      · simp -implicitDefEqProofs only [ints, rows, Nat.reduceBEq, wkR, Nat.reduceEqDiff, ↓reduceIte, wrR, nodes, q0lb h9 (by omega), ← hwp, wrap64 (n := wayP g S pl c m) (by omega) (by omega)]
      · exact ⟨⟨_, rfl, .refl _⟩, rfl, ⟨_, rfl, .refl _⟩, rfl, ⟨_, rfl, .refl _⟩, rfl, trivial⟩
    · rw [if_neg hxp, Int.mul_one] at hwp
      have hpl1 := (List.getElem?_eq_some_iff.1 hpg).1
      simp -implicitDefEqProofs only [go_sem, evR, ints, rows, rat, rats, nodes, intsO, q0ky hx, q0kz hx, hpg, m5, decide_eq_true (show (i : Int) < ((wayL g.nd n).length : Int) by omega), show (x.p == pl) = false by simp [hxp]]
      repeat (first | refine ⟨by omega, ?_⟩ | refine ⟨by rw [q0l0]; omega, ?_⟩)
      refine hn1 _ (i + 1, m) (Weak.of _ _ [some 4, some 5, some 16] (by simp) (by simp) ?_ ?_) ⟨by show i + 1 <= _; omega, m1, m3⟩ (by show _ - (i + 1) < _ - i; omega)
      · simp -implicitDefEqProofs only [ints, rows, Nat.reduceBEq, wkR, Nat.reduceEqDiff, ↓reduceIte, wrR, nodes, q0lb h9 (by omega), hwp]
      · exact ⟨⟨_, rfl, .refl _⟩, rfl, ⟨_, rfl, .refl _⟩, rfl, ⟨_, rfl, .refl _⟩, rfl, trivial⟩
  · have hil : i = (wayL g.nd n).length := by omega
    have hun : u = n := by rw [hil, a3] at hau; exact (Option.some.inj hau).symm
    simp -implicitDefEqProofs only [go_sem, evR, ints, rows, rat, rats, nodes, intsO, decide_eq_false (show ¬ (i : Int) < ((wayL g.nd n).length : Int) by omega)]
    refine he _ _ ?_
    simp -implicitDefEqProofs only [go_sem, evR, ints, rows, rat, rats]
    rw [hun]
theorem q0f8 {g : Gm} {s t : List (List Int)} (hg : q0fl g = true) (hs : q0nw g s 0) (ht : q0nw g t 1) {pl : Int} (hpl : pl = 0 ∨ pl = 1) {n a b : Nat} (hn : n < g.nd.length) (ha : a < g.w.length) (hb : b < g.w.length) :
    Pure Try.prog 226 [.pin [.sh 5 (chunk q0lu g.nd), .sh 1 (g.w.map ints), .sh 1 (g.v.map ints), .sh 1 ((ownL g 0).map T.i), .sh 1 ((ownL g 1).map T.i), .sh 1 (s.map ints), .sh 1 (t.map ints), .sh 1 ((parN g.nd g.nd.length).map T.i)] 0, .i n, .i pl, .i a, .i b] (.i (wayP g (q10l pl s t) pl (if pl = 0 then a else b) n)) := by
  obtain ⟨p1, p2, p3, p4, p5⟩ := q0fn hg
  obtain ⟨t1, t2, t3, t4⟩ := q0g0 p1
  have hm := (q153 hs ht hpl).1
  have hcc : (if pl = 0 then a else b) < g.w.length := by split <;> assumption
  have hrow : ∀ u, (g.nd.getD u nd0).p = pl -> chP g s t u a b = partsOf g (q10l pl s t) pl u (if pl = 0 then a else b) := fun u hu => by
    unfold chP q10l
    rcases hpl with rfl | rfl
    · rw [if_pos hu, if_pos rfl, if_pos rfl]
    · rw [if_neg (by omega), if_neg (by omega), if_neg (by omega)]
  generalize (if pl = 0 then a else b) = c at hcc hrow ⊢
  generalize hS : q10l pl s t = S at hm hrow ⊢
  have hwn := q12u t2 t3 n n (Nat.le_refl _) hn
  have hdn := (q07x (l := g.nd) g.nd.length n).1
  refine q0a2 (by simp) ?_
  simp -implicitDefEqProofs only [go_sem, evR, ints, rows, rat, rats, q034]
  refine SemC.loopR (σ := Nat × Int) (fun q => St.of [(0, .t (.pin (evL g s t) 0)), (1, .t (.i q.1)), (2, .t (.i pl)), (3, .t (.i a)), (4, .t (.i b)), (11, .t (.i q.2))] []) (fun q => q.1 < g.nd.length /\ q.2 * wayP g S pl c q.1 = wayP g S pl c n /\ ∃ d, (wayL g.nd q.1).length + d <= (wayL g.nd n).length /\ 0 <= q.2 /\ q.2 <= pw d) (fun q => q.1) (n, 1) (Weak.of _ [] [] (by simp) (by simp) ?_ trivial) ⟨hn, by show (1 : Int) * _ = _; rw [Int.one_mul], 0, by show (wayL g.nd n).length + 0 <= _; omega, by show (0 : Int) <= 1; decide, by show (1 : Int) <= pw 0; decide⟩ fun q hI R hn1 hr he => ?_
  · simp -implicitDefEqProofs only [ints, rows, Nat.reduceBEq, wkR, Nat.reduceEqDiff, ↓reduceIte, wrR, evL, nodes]
  obtain ⟨j, z⟩ := q
  obtain ⟨hj, hz, d, hd, z0, z1⟩ := hI
  (try simp only [] at hj hz hd z0 z1)
  (try simp only [])
  by_cases hj0 : j = 0
  · subst hj0
    rw [q12s, Int.mul_one] at hz
    simp -implicitDefEqProofs only [go_sem, evR, ints, rows, rat, rats, decide_eq_false (show ¬ ((0 : Nat) : Int) > 0 by omega)]
    refine he _ _ ?_
    simp -implicitDefEqProofs only [go_sem, evR, ints, rows, rat, rats]
    rw [hz]
  · have hku := q10e t2 t3 (j := j) (by omega) hj
    have huj := q12k t2 t3 (j := j) (by omega) hj
    have hup := q113 t2 t3 (j := j) (by omega) hj
    have hpg := q118 t2 t3 (j := j) (by omega) hj
    have hwp := q12r (S := S) (pl := pl) (c := c) t2 t3 (j := j) (by omega) hj
    have hwu := q12v t2 t3 (j := j) (by omega) hj
    have hpl2 := q112 g.nd g.nd.length
    rw [hwu, List.length_append, List.length_cons, List.length_nil] at hd
    have hplc : plc g.nd j = ixOf (j : Int) (g.nd.getD (upN g.nd j) nd0).ch := rfl
    generalize upN g.nd j = u at hku huj hup hpg hwp hwu hd hplc
    obtain ⟨x, hx⟩ : ∃ x, g.nd[u]? = some x := ⟨_, List.getElem?_eq_getElem hku.1⟩
    have hxd : g.nd.getD u nd0 = x := by rw [List.getD_eq_getElem?_getD, hx]; rfl
    have hxl := (q0ks (t2 _ _ hx)).2.2.2.2.2
    rw [hxd] at hpg hwp hplc
    have hpl1 := (List.getElem?_eq_some_iff.1 hpg).1
    by_cases hxp : x.p = pl
    · have hpd : (g.nd.getD u nd0).p = pl := by rw [hxd]; exact hxp
      have hc2 := hrow u hpd
      have hb2 := q114 hm hku.1 hcc hpd (plc g.nd j)
      have hrl := (hm u c hku.1 hcc hpd).1
      rw [hxd] at hrl
      obtain ⟨y, hy⟩ : ∃ y, (partsOf g S pl u c)[plc g.nd j]? = some y := ⟨_, List.getElem?_eq_getElem (by omega)⟩
      rw [if_pos hxp, List.getD_eq_getElem?_getD, hy, Option.getD_some] at hwp
      rw [List.getD_eq_getElem?_getD, hy, Option.getD_some] at hb2
      have hmem : (j : Int) ∈ x.ch := List.mem_of_getElem? hpg
      have hix := q0rr x.ch (by omega) (j : Int) hmem
      have zb : z * y <= pw d * 60 := Int.mul_le_mul z1 hb2.2 hb2.1 (by have := q0ok d; omega)
      have zc := Int.mul_nonneg z0 hb2.1
      have hpw := q0oj (p := d + 1) (by omega)
      rw [q0ol] at hpw
      have hpa := q0nv hg hs ht (i := u) (a := a) (b := b) hku.1 ha hb (by omega)
      rw [hc2] at hpa
      simp -implicitDefEqProofs only [go_sem, evR, ints, rows, rat, rats, evL, nodes, hup, q0ky hx, hpl2, decide_eq_true (show (j : Int) > 0 by omega), show (x.p == pl) = true by simp [hxp]]
      repeat (first | refine ⟨by omega, ?_⟩ | refine ⟨by rw [q0l0]; omega, ?_⟩)
      refine q002.ref hpa [] [] rfl Try.call214 (by simp) ?_ (by simp) (fun e R' hR => ?_) (.inl rfl) ?_
      · simp -implicitDefEqProofs only [srR, Nat.reduceEqDiff, ↓reduceIte, ints, rows, intsO, q0qa]
      · simp -implicitDefEqProofs only [agR, Nat.reduceLeDiff, Nat.reduceSub, vaR, go_sem, ints, rows, rat, rats, q0p1, rtR, intsO, q0qa]
      simp -implicitDefEqProofs only [clR, Nat.reduceLeDiff, go_sem, evR, rat, evL, nodes, rows, ints, q0kz hx]
      repeat (first | refine ⟨by omega, ?_⟩ | refine ⟨by rw [q0l0]; omega, ?_⟩)
      rw [← hplc] at hix
      refine q004.pure hix [] rfl Try.call117 (fun e R' hR => ?_) (by first | trivial | simp [T.noSh, T.noShL, rat]) (fun _ => rfl) ?_
      · simp -implicitDefEqProofs only [agR, Nat.reduceLeDiff, Nat.reduceSub, vaR, go_sem, ints, rows, rat, rats, q0p1, rtR, intsO, q0qa]
      simp -implicitDefEqProofs only [go_sem, evR, ints, rows, rat, rats, hy]
      repeat (first | refine ⟨by omega, ?_⟩ | refine ⟨by rw [q0l0]; omega, ?_⟩)
      refine hn1 _ (u, z * y) (Weak.of _ [] [] (by simp) (by simp) ?_ trivial) ⟨hku.1, by show z * y * wayP g S pl c u = _; rw [← hz, hwp, Int.mul_assoc, Int.mul_comm y], d + 1, by show (wayL g.nd u).length + (d + 1) <= _; omega, zc, by show z * y <= pw (d + 1); rw [q0ol]; omega⟩ (by show u < j; omega)
      simp -implicitDefEqProofs only [ints, rows, Nat.reduceBEq, wkR, Nat.reduceEqDiff, ↓reduceIte, wrR, evL, nodes, wrap64 (n := z * y) (by omega) (by omega)]
    · rw [if_neg hxp, Int.mul_one] at hwp
      simp -implicitDefEqProofs only [go_sem, evR, ints, rows, rat, rats, evL, nodes, hup, q0ky hx, hpl2, decide_eq_true (show (j : Int) > 0 by omega), show (x.p == pl) = false by simp [hxp]]
      repeat (first | refine ⟨by omega, ?_⟩ | refine ⟨by rw [q0l0]; omega, ?_⟩)
      refine hn1 _ (u, z) (Weak.of _ [] [] (by simp) (by simp) ?_ trivial) ⟨hku.1, by rw [← hwp]; exact hz, d, by show (wayL g.nd u).length + d <= _; omega, z0, z1⟩ (by show u < j; omega)
      simp -implicitDefEqProofs only [ints, rows, Nat.reduceBEq, wkR, Nat.reduceEqDiff, ↓reduceIte, wrR, evL, nodes]
end
end Go.Ab

/- The bridge, part 5: bytes. -/
namespace Go.Ab

def bytes (cs : List Int) : T := .sh 1 (cs.map fun x => .v (.int .u8 x))
end Go.Ab

/- Contracts: the source of drawn numbers. -/
namespace Go.Ab
open Go.Proofs

def q0qx (a : Nat × Int) : Prop := 0 <= a.2 /\ a.2 < 2147483647 /\ a.1 <= 1000000000000
def LeL (l l' : List T) : Prop := l.length = l'.length /\ ∀ i (h : i < l.length) (h' : i < l'.length), Le l[i] l'[i]
theorem LeL.refl (l : List T) : LeL l l := ⟨rfl, fun _ _ _ => .refl _⟩
theorem LeL.cons {a a' : T} {l l' : List T} (h : Le a a') (h' : LeL l l') : LeL (a :: l) (a' :: l') := by
  refine ⟨by simp [h'.1], fun i q q' => ?_⟩
  cases i with
  | zero => exact h
  | succ i => simpa using h'.2 i (by simpa using q) (by simpa using q')
theorem LeL.append : ∀ {l l' m m' : List T}, LeL l l' -> LeL m m' -> LeL (l ++ m) (l' ++ m')
  | [], [], _, _, _, h => h
  | [], _ :: _, _, _, h, _ => absurd h.1 (by simp)
  | _ :: _, [], _, _, h, _ => absurd h.1 (by simp)
  | a :: l, a' :: l', m, m', h, h2 => LeL.cons (h.2 0 (by simp) (by simp)) (LeL.append ⟨by have := h.1; simpa using this, fun i q q' => by have := h.2 (i + 1) (by simpa using q) (by simpa using q'); simpa using this⟩ h2)
theorem LeL.arr {s : Nat} {l l' : List T} (h : LeL l l') : Le (.arr s l) (.arr s l') := .arr s h.1 h.2
def q0rx (b : Nat) (l : List Nd) : Prop := l.length <= b /\ ∀ x ∈ l, x.ch.length <= 8
section
attribute [-go_sem] q0i5 q0id fldC lenC idxC q0ip
end
def grown (b : Nat) (l : List Nd) (x : List Nd × (Nat × Int)) : Prop := q0rx (l.length + b) x.1 /\ l.length < x.1.length /\ q0qx x.2
section
attribute [-go_sem] q0i5 q0id fldC lenC idxC q0ip
end
def q0rk (g : Gm) (pl : Int) : List Int := (List.range (sets g pl).length).map fun i => (q0rh g pl i : Int)
theorem q0rm (g : Gm) (pl : Int) : (q0rk g pl).length = (sets g pl).length := by simp [q0rk]
theorem q0rl {g : Gm} {pl : Int} {i : Nat} (h : i < (sets g pl).length) : (q0rk g pl)[i]? = some (q0rh g pl i : Int) := by simp [q0rk, h]
theorem q0rn {g : Gm} {pl : Int} {i : Nat} (h : i < (sets g pl).length) : (q0rk g pl).take (i + 1) = (q0rk g pl).take i ++ [(q0rh g pl i : Int)] := q0uj (q0rl h)
section
attribute [-go_sem] q0i5 q0id fldC lenC idxC q0ip q0lp
theorem q0sj (g : Gm) (pl : Int) (hl : g.nd.length <= 60) (hk : g.w.length <= 6) : Fun Try.prog 196 [] [.t (.agg [.sh 5 (chunk q0lu g.nd), .sh 1 (g.w.map ints), .sh 1 (g.v.map ints)]), .t (.i pl)] fun o r => o = [] /\ r = intsO (q0rk g pl) := by
  refine q0bx (by simp) ?_
  simp -implicitDefEqProofs only [go_sem, evR, ints, rows, rat, rats, q04z]
  have hsl := q0re g pl hl hk
  have hp := q0h9 g pl hl hk
  simp only [q0qa] at hp
  refine q006.res hp [] rfl Try.call186 ?_ (.inl rfl) ?_
  · simp -implicitDefEqProofs only [agR, Nat.reduceLeDiff, Nat.reduceSub, vaR, go_sem, ints, rows, rat, rats, q0p1, rtR, intsO, q0qa]
  simp -implicitDefEqProofs only [clR, Nat.reduceLeDiff, go_sem, evR, rat]
  refine SemC.loopR (σ := Nat) (fun i => St.of [(2, .own 2), (5, .t (rows (sets g pl))), (6, .own 96), (7, .t (.i i))] [(2, .box [.sh 5 (chunk q0lu g.nd), .sh 1 (g.w.map ints), .sh 1 (g.v.map ints)]), (96, intsO ((q0rk g pl).take i))]) (fun i => i <= (sets g pl).length) (fun i => (sets g pl).length - i) 0 (Weak.trans (Weak.share 10 rfl) (Weak.of _ _ [some 2, some 11] (by simp) (by simp) ?_ ?_)) (by simp) fun i hi R hn hr he => ?_
  · simp -implicitDefEqProofs only [ints, rows, Nat.reduceBEq, wkR, Nat.reduceEqDiff, ↓reduceIte, wrR, q0rg, T.toSh, q0vg]
  · exact ⟨⟨_, rfl, .refl _⟩, rfl, ⟨_, rfl, .refl _⟩, rfl, trivial⟩
  rcases Nat.lt_or_ge i (sets g pl).length with h9 | h9
  · obtain ⟨n, c, x, hs, hx, hn1, hc1, hxp, hsz⟩ := q0qz h9
    have hlt : ((q0rk g pl).take i).length = i := by rw [List.length_take, q0rm]; omega
    simp -implicitDefEqProofs only [go_sem, evR, ints, rows, rat, rats, intsO, decide_eq_true (show (i : Int) < ((sets g pl).length : Int) by omega), hs, q0kz hx, Option.map_some, Option.getD_some]
    refine ⟨by omega, by omega, by omega, by omega, by rw [q0l0]; omega, by rw [q0l0]; omega, by omega, hn _ (i + 1) (Weak.of _ _ [some 2, some 33] (by simp) (by simp) ?_ ?_) (by omega) (by omega)⟩
    · simp -implicitDefEqProofs only [ints, rows, Nat.reduceBEq, wkR, Nat.reduceEqDiff, ↓reduceIte, wrR, q0lb h9 (by omega)]
    · refine ⟨⟨_, rfl, .refl _⟩, rfl, ⟨_, rfl, ?_⟩, rfl, trivial⟩
      rw [q0rn h9, hsz, intsO, List.map_append]; exact .refl _
  · simp -implicitDefEqProofs only [go_sem, evR, ints, rows, rat, rats, decide_eq_false (show ¬ (i : Int) < ((sets g pl).length : Int) by omega)]
    refine he _ _ ?_
    simp -implicitDefEqProofs only [go_sem, evR, ints, rows, rat, rats, intsO]
    rw [List.take_of_length_le (by rw [q0rm]; exact h9)]
theorem q0ri {g : Gm} (hg : q0fl g = true) {pl : Int} (hpl : pl = 0 ∨ pl = 1) {i : Nat} (h : i < (sets g pl).length) : 1 <= q0rh g pl i /\ q0rh g pl i <= 4 := by
  obtain ⟨n, c, x, hs, hx, hn1, hc1, hxp, hsz⟩ := q0qz h
  obtain ⟨p1, p2, p3, p4, p5⟩ := q0fn hg
  obtain ⟨t1, t2, t3, t4⟩ := q0g0 p1
  obtain ⟨-, -, -, -, f1, f2⟩ := q0ks (t2 _ _ hx)
  rw [hsz]
  exact ⟨(f1 (by omega)).2, f2⟩
end
end Go.Ab

/- Games as data: the strategies of a run are strategies; its numbers stay small. -/
namespace Go.Ab

theorem q14q : ∀ (l : List Int) (a : Int), ∀ x ∈ l, x <= l.foldl max a
  | [], _ => by simp
  | y :: l, a => by
    intro x hx
    rw [List.foldl_cons]
    rcases List.mem_cons.1 hx with rfl | hx
    · have := q09o l (max a x); omega
    · exact q14q l _ x hx
theorem q14i : ∀ (f : Nat) (l : List Int), okW (W f) l -> ∀ x ∈ hvd f l, 0 <= x /\ x <= 1000000000
  | 0, l, h => fun x hx => by
    have h1 := h x hx
    have h2 : W 0 = 536870912 := rfl
    omega
  | f + 1, l, h => by
    rw [hvd]
    split
    · rename_i hm
      intro x hx
      have h1 : x <= mx0 l := q14q l 0 x hx
      exact ⟨(h x hx).1, by omega⟩
    · exact q14i f (half l) (q0ma (by rw [← q00f]; exact h))
theorem q155 {l : List Int} {B : Int} (h : ∀ x ∈ l, -B <= x /\ x <= B) (hB : B < 9223372036854775808) : okW 9223372036854775808 (posL l) := by
  intro x hx
  obtain ⟨y, hy, rfl⟩ := List.mem_map.1 hx
  have := h y hy
  omega
theorem W34 : W 34 = 9223372036854775808 := by
  unfold W
  have h2 : (2 : Nat) ^ 63 = 9223372036854775808 := by decide
  omega
theorem q15h {l : List Int} {B : Int} (h : ∀ x ∈ l, -B <= x /\ x <= B) (hB : B < 9223372036854775808) (h1 : 1 <= l.length) (h4 : l.length <= 4) : q0xj (hvd 34 (posL l)) := by
  refine ⟨?_, ?_, ?_⟩
  · rw [q0dz]; simpa [posL] using h1
  · rw [q0dz]; simpa [posL] using h4
  · exact q14i 34 _ (by rw [W34]; exact q155 h hB)
theorem q14x {t q : Int} (ht : 0 < t) (h : -t < t * q) : 0 <= q := by
  rcases Int.lt_or_le q 0 with h1 | h1
  · have : t * q <= t * (-1) := Int.mul_le_mul_of_nonneg_left (by omega) (by omega)
    omega
  · exact h1
theorem q15s {l : List Int} (h : ∀ x ∈ l, 0 <= x) : ∀ x ∈ l, x <= l.sum := by
  induction l with
  | nil => simp
  | cons y l ih =>
    intro x hx
    have h0 := q0ub (w := l) fun z hz => h z (by simp [hz])
    rw [List.sum_cons]
    rcases List.mem_cons.1 hx with rfl | hx
    · omega
    · have h1 := ih (fun z hz => h z (by simp [hz])) x hx
      have h2 := h y (by simp)
      omega
theorem q14g {w : List Int} (hw : ∀ x ∈ w, 0 <= x) (ht : 0 < w.sum) : ∀ x ∈ ham1 w, 0 <= x /\ x <= 60 := by
  obtain ⟨h1, h2, h3⟩ := q0dm hw ht
  have h0 : ∀ x ∈ ham1 w, 0 <= x := fun x hx => by
    obtain ⟨i, hi, rfl⟩ := List.mem_iff_getElem.1 hx
    have hiw : i < w.length := by omega
    have h4 := (h3 i hiw).1
    have h5 : (ham1 w).getD i 0 = (ham1 w)[i] := by rw [List.getD_eq_getElem?_getD, List.getElem?_eq_getElem hi]; rfl
    have h6 : 0 <= w.getD i 0 := by rw [List.getD_eq_getElem?_getD, List.getElem?_eq_getElem hiw]; exact hw _ (List.getElem_mem hiw)
    rw [h5] at h4
    exact q14x ht (by omega)
  intro x hx
  have := q15s h0 x hx
  exact ⟨h0 x hx, by omega⟩
theorem q14h {w : List Int} (hw : ∀ x ∈ w, 0 <= x) (hl : 1 <= w.length) : ∀ x ∈ ham w, 0 <= x /\ x <= 60 := by
  have h0 := q0ub hw
  unfold ham
  split
  · exact q14g (fun x hx => by simp [q0mb] at hx; omega) (by rw [q0me]; omega)
  · exact q14g hw (by omega)
theorem q15e {l : List Int} {B : Int} (h : ∀ x ∈ l, -B <= x /\ x <= B) (hB : B < 9223372036854775808) (h1 : 1 <= l.length) (h4 : l.length <= 4) : (rowP l).length = l.length /\ (∀ x ∈ rowP l, 0 <= x /\ x <= 60) /\ sumI (rowP l) = 60 := by
  have hw := q15h h hB h1 h4
  have hs := q0dp (fun x hx => (hw.2.2 x hx).1) hw.1
  refine ⟨?_, q14h (fun x hx => (hw.2.2 x hx).1) hw.1, by rw [q0u0]; exact hs.2.1⟩
  show (ham _).length = _
  rw [hs.1, q0dz]; simp [posL]
theorem q15o (m : List (List Int)) : (stM m).length = m.length := by simp [stM]
theorem q15n {m : List (List Int)} {i : Nat} {r : List Int} (h : m[i]? = some r) : (stM m)[i]? = some (rowP r) := by simp [stM, h]
theorem q15p {g : Gm} (hg : q0fl g = true) {pl B : Int} (hpl : pl = 0 ∨ pl = 1) {m : List (List Int)} (h : okM g pl B m) (hB : B < 9223372036854775808) : q0ft g pl (stM m) = true := by
  rw [q0fu]
  refine ⟨by rw [q15o]; exact h.1, fun i hi => ?_⟩
  obtain ⟨r, hr, _, hl, hb⟩ := q150 h hi
  obtain ⟨b1, b2⟩ := q0ri hg hpl hi
  obtain ⟨q1, q2, q3⟩ := q15e hb hB (by omega) (by omega)
  rw [List.getD_eq_getElem?_getD, q15n hr, Option.getD_some, q0nu]
  refine ⟨by omega, List.all_eq_true.2 fun x hx => by simpa using q2 x hx, by rw [← q0u0]; exact q3⟩
theorem q14r {g : Gm} {s t : List (List Int)} (hg : q0fl g = true) {pl : Int} (hpl : pl = 0 ∨ pl = 1) (hm : q0nw g (q10l pl s t) pl) {i : Nat} (hi : i < (sets g pl).length) : (q10l pl s t)[i]? = some ((q10l pl s t).getD i []) /\ ((q10l pl s t).getD i []).length = q0rh g pl i /\ (∀ x ∈ (q10l pl s t).getD i [], 0 <= x /\ x <= 60) /\ sumI ((q10l pl s t).getD i []) = 60 := by
  obtain ⟨p1, p2, p3, p4, p5⟩ := q0fn hg
  obtain ⟨t1, t2, t3, t4⟩ := q0g0 p1
  obtain ⟨a1, a2, a3, a4, a5, a6⟩ := q15l hi
  have h1 := q0ny t2 (by omega) hm a2 a3 a4
  have h2 := hm _ _ a2 a3 a4
  have e : (q10l pl s t).getD i [] = partsOf g (q10l pl s t) pl (setN g pl i) (setC g pl i) := by rw [partsOf, a6]
  rw [a6] at h1
  rw [e, a5]
  exact ⟨h1, h2⟩
theorem q15f {g : Gm} (hg : q0fl g = true) {s t : List (List Int)} (hs : q0nw g s 0) (ht : q0nw g t 1) {pl B : Int} (hpl : pl = 0 ∨ pl = 1) {R : List (List Int)} (hR : okM g pl B R) {i : Nat} (hi : i < (sets g pl).length) :
    (rowR g s t pl R i).length = q0rh g pl i /\ ∀ x ∈ rowR g s t pl R i, -(B + 30000000000000) <= x /\ x <= B + 30000000000000 := by
  obtain ⟨a1, a2, a3, a4, a5, a6⟩ := q15l hi
  obtain ⟨r, hr, hr', hl, hb⟩ := q150 hR hi
  obtain ⟨m1, m2, m3, m4⟩ := q14r hg hpl (q153 hs ht hpl).1 hi
  have h2 : (g.nd.getD (setN g pl i) nd0).p ≠ 2 := by omega
  have hC := q149 hg hs ht hpl a2 h2 a3
  have hCl := q14b g s t pl (setN g pl i) (setC g pl i)
  have hsz := (q0ri hg hpl hi).2
  unfold rowR
  rw [hr']
  refine ⟨by rw [q15u (by omega)]; exact hl, fun x hx => ?_⟩
  have hM := q14n m3 hC (cnts g s t pl (setN g pl i) (setC g pl i)).length
  have hM' : ((cnts g s t pl (setN g pl i) (setC g pl i)).length : Int) <= 4 := by omega
  obtain ⟨k, hk, rfl⟩ := List.mem_iff_getElem.1 hx
  have hkl : k < r.length := by rw [q15u (by omega)] at hk; exact hk
  have hx1 := List.getElem?_eq_getElem hkl
  have hx2 := List.getElem?_eq_getElem (show k < (cnts g s t pl (setN g pl i) (setC g pl i)).length by omega)
  have h3 := q15t (M := q14l ((q10l pl s t).getD i []) (cnts g s t pl (setN g pl i) (setC g pl i))) hx1 hx2
  rw [List.getElem?_eq_getElem hk, Option.some.injEq] at h3
  rw [h3]
  have h4 := hb _ (List.getElem_mem hkl)
  have h5 := hC _ (List.getElem_mem (show k < (cnts g s t pl (setN g pl i) (setC g pl i)).length by omega))
  have h6 : q14l ((q10l pl s t).getD i []) (cnts g s t pl (setN g pl i) (setC g pl i)) = q14m ((q10l pl s t).getD i []) (cnts g s t pl (setN g pl i) (setC g pl i)) (cnts g s t pl (setN g pl i) (setC g pl i)).length := rfl
  rw [h6]
  omega
theorem q154 {g : Gm} (hg : q0fl g = true) {S : List (List Int)} {pl : Int} (hS : q0nw g S pl) {c n : Nat} (hc : c < g.w.length) (hn : n < g.nd.length) (h2 : (g.nd.getD n nd0).p ≠ 2) : 0 <= wayP g S pl c n /\ wayP g S pl c n <= 12960000 := by
  obtain ⟨p1, p2, p3, p4, p5⟩ := q0fn hg
  obtain ⟨t1, t2, t3, t4⟩ := q0g0 p1
  obtain ⟨b1, b2⟩ := q12q t2 t3 hS hc n n (Nat.le_refl _) hn
  have := q157 (show (wayL g.nd n).length <= 4 by have := (q145 hg hn h2).1; omega)
  omega
theorem q15g {g : Gm} (hg : q0fl g = true) {s t : List (List Int)} (hs : q0nw g s 0) (ht : q0nw g t 1) {pl B : Int} (hpl : pl = 0 ∨ pl = 1) {S : List (List Int)} (hS : okM g pl B S) {i : Nat} (hi : i < (sets g pl).length) :
    (rowS g s t pl S i).length = q0rh g pl i /\ ∀ x ∈ rowS g s t pl S i, -(B + 30000000000000) <= x /\ x <= B + 30000000000000 := by
  obtain ⟨a1, a2, a3, a4, a5, a6⟩ := q15l hi
  obtain ⟨r, hr, hr', hl, hb⟩ := q150 hS hi
  obtain ⟨m1, m2, m3, m4⟩ := q14r hg hpl (q153 hs ht hpl).1 hi
  have h2 : (g.nd.getD (setN g pl i) nd0).p ≠ 2 := by omega
  have hw := q154 hg (q153 hs ht hpl).1 a3 a2 h2
  unfold rowS
  rw [hr']
  refine ⟨by rw [q15w (by omega)]; exact hl, fun x hx => ?_⟩
  obtain ⟨k, hk, rfl⟩ := List.mem_iff_getElem.1 hx
  have hkl : k < r.length := by rw [q15w (by omega)] at hk; exact hk
  have hx1 := List.getElem?_eq_getElem hkl
  have hx2 := List.getElem?_eq_getElem (show k < ((q10l pl s t).getD i []).length by omega)
  have h3 := q15v (w := wayP g (q10l pl s t) pl (setC g pl i) (setN g pl i)) hx1 hx2
  rw [List.getElem?_eq_getElem hk, Option.some.injEq] at h3
  rw [h3]
  have h4 := hb _ (List.getElem_mem hkl)
  have h5 := m3 _ (List.getElem_mem (show k < ((q10l pl s t).getD i []).length by omega))
  have h6 := Int.mul_le_mul hw.2 h5.2 h5.1 (by decide)
  have h7 := Int.mul_nonneg hw.1 h5.1
  omega
def okRS (g : Gm) (n : Nat) (x : RS) : Prop := okM g 0 (n * 30000000000000) x.r0 /\ okM g 1 (n * 30000000000000) x.r1 /\ okM g 0 (n * 30000000000000) x.s0 /\ okM g 1 (n * 30000000000000) x.s1
theorem q152 {g : Gm} (hg : q0fl g = true) {n : Nat} (hn : n <= 1000) {x : RS} (h : okRS g n x) : q0ft g 0 (stM x.r0) = true /\ q0ft g 1 (stM x.r1) = true /\ q0ft g 0 (stM x.s0) = true /\ q0ft g 1 (stM x.s1) = true :=
  ⟨q15p hg (.inl rfl) h.1 (by omega), q15p hg (.inr rfl) h.2.1 (by omega), q15p hg (.inl rfl) h.2.2.1 (by omega), q15p hg (.inr rfl) h.2.2.2 (by omega)⟩
theorem q15r {g : Gm} (hg : q0fl g = true) {n : Nat} (hn : n <= 1000) {x : RS} (h : okRS g n x) : okRS g (n + 1) (q15q g x) := by
  obtain ⟨h0, h1, _, _⟩ := q152 hg hn h
  have h0 := q0nx h0
  have h1 := q0nx h1
  have e : ((n + 1 : Nat) : Int) * 30000000000000 = (n : Int) * 30000000000000 + 30000000000000 := by omega
  unfold okRS
  rw [e]
  exact ⟨q151 fun i hi => q15f hg h0 h1 (.inl rfl) h.1 hi, q151 fun i hi => q15f hg h0 h1 (.inr rfl) h.2.1 hi, q151 fun i hi => q15g hg h0 h1 (.inl rfl) h.2.2.1 hi, q151 fun i hi => q15g hg h0 h1 (.inr rfl) h.2.2.2 hi⟩
theorem q15j {g : Gm} (hg : q0fl g = true) : ∀ n, n <= 1000 -> okRS g n (q15i g n)
  | 0, _ => by
    unfold okRS
    rw [show ((0 : Nat) : Int) * 30000000000000 = 0 from rfl]
    exact ⟨q160 g 0, q160 g 1, q160 g 0, q160 g 1⟩
  | n + 1, h => q15r hg (by omega) (q15j hg n (by omega))
end Go.Ab

/- Games as data: what the laws of runs say. -/
namespace Go.Ab

def curI (g : Gm) (k : Nat) : Int := expN g (0, stM (q15i g k).s0) (1, stM (q15i g k).s1)
def curL (g : Gm) (n : Nat) : List Int := (List.range n).map (curI g)
theorem q14d (g : Gm) (n : Nat) : (curL g n).length = n := by simp [curL]
theorem q14f (g : Gm) (n : Nat) : curL g (n + 1) = curL g n ++ [curI g n] := by simp [curL, List.range_succ]
end Go.Ab

/- Games as data: the results of runs. -/
namespace Go.Ab

def q15a (g : Gm) (pl n : Int) : Int := if q0fl g = true then (if (0 <= n /\ n <= 30) /\ (0 <= pl /\ pl <= 1) then 0 else 2) else 1
theorem q15b {g : Gm} {pl n : Int} (h : q0fl g = false) : q15a g pl n = 1 := by rw [q15a, h]; rfl
theorem q15c {g : Gm} {pl n : Int} (h : q0fl g = true) (hr : ¬ ((0 <= n /\ n <= 30) /\ (0 <= pl /\ pl <= 1))) : q15a g pl n = 2 := by rw [q15a, if_pos h, if_neg hr]
theorem q15d {g : Gm} {pl n : Int} : q15a g pl n = 0 ↔ q0fl g = true /\ (0 <= n /\ n <= 30) /\ (0 <= pl /\ pl <= 1) := by
  unfold q15a
  by_cases h : q0fl g = true
  · rw [if_pos h]
    by_cases hr : (0 <= n /\ n <= 30) /\ (0 <= pl /\ pl <= 1)
    · rw [if_pos hr]; exact ⟨fun _ => ⟨h, hr⟩, fun _ => rfl⟩
    · rw [if_neg hr]; exact ⟨fun e => by omega, fun e => absurd e.2 hr⟩
  · rw [if_neg h]; exact ⟨fun e => by omega, fun e => absurd e.1 h⟩
def crvR (g : Gm) (n : Int) : List Int × Int := if q15a g 0 n = 0 then (curL g (n.toNat + 1), 0) else ([], q15a g 0 n)
theorem q15k {g : Gm} (hg : q0fl g = true) {n : Nat} (hn : n <= 1000) : q0nn g (0, stM (q15i g n).r0) (1, stM (q15i g n).r1) = true /\ q0nn g (0, stM (q15i g n).s0) (1, stM (q15i g n).s1) = true := by
  obtain ⟨a, b, c, d⟩ := q152 hg hn (q15j hg n hn)
  exact ⟨q0no.2 ⟨hg, rfl, rfl, a, b⟩, q0no.2 ⟨hg, rfl, rfl, c, d⟩⟩
theorem q15m {g : Gm} (hg : q0fl g = true) (pl : Int) : (sets g pl).length <= 360 := by
  obtain ⟨p1, p2, p3, p4, p5⟩ := q0fn hg
  exact q0re g pl (q0g0 p1).1.2 p2.2
theorem q162 (g : Gm) (n : Int) : (crvR g n).1.length <= 1048576 := by
  unfold crvR
  split
  · rename_i h
    obtain ⟨h1, h2, h3⟩ := q15d.1 h
    show (curL g (n.toNat + 1)).length <= _
    rw [q14d]; omega
  · simp
end Go.Ab

/- Contracts: counts of an information set; strategies of a run. -/
namespace Go.Ab
open Go.Proofs
section
attribute [-go_sem] q0i5 q0id fldC lenC idxC q0ip q0lp
theorem q06t {g : Gm} {s t : List (List Int)} {pl : Int} {n c k : Nat} {x : Int} (h : (g.nd.getD n nd0).ch[k]? = some x) : (cnts g s t pl n c).take (k + 1) = (cnts g s t pl n c).take k ++ [cntN g s t pl n c x.toNat g.w.length] := q0uj (q14a h)
theorem q0st {g : Gm} (hg : q0fl g = true) {s t : List (List Int)} (hs : q0nw g s 0) (ht : q0nw g t 1) {n c : Nat} (hn : n < g.nd.length) (h2 : (g.nd.getD n nd0).p ≠ 2) (hc : c < g.w.length) : Fun Try.prog 208 [] [.t (.agg [.sh 5 (chunk q0lu g.nd), .sh 1 (g.w.map ints), .sh 1 (g.v.map ints)]), .t (.agg [.i 0, .sh 1 (s.map ints)]), .t (.agg [.i 1, .sh 1 (t.map ints)]), .t (.i 0), .t (.i n), .t (.i c)] fun o r => o = [] /\ r = intsO (cnts g s t 0 n c) := by
  obtain ⟨p1, p2, p3, p4, p5⟩ := q0fn hg
  obtain ⟨t1, t2, t3, t4⟩ := q0g0 p1
  obtain ⟨e1, e2, e3⟩ := q145 hg hn h2
  obtain ⟨x, hx⟩ : ∃ x, g.nd[n]? = some x := ⟨_, List.getElem?_eq_getElem hn⟩
  have hxd : g.nd.getD n nd0 = x := by rw [List.getD_eq_getElem?_getD, hx]; rfl
  have hxl := (q0ks (t2 _ _ hx)).2.2.2.2.2
  have hcl := q14b g s t 0 n c
  have hcg : ∀ k y, x.ch[k]? = some y -> (cnts g s t 0 n c).take (k + 1) = (cnts g s t 0 n c).take k ++ [cntN g s t 0 n c y.toNat g.w.length] := fun k y h => q06t (by rw [hxd]; exact h)
  rw [hxd] at hcl e3
  refine q0c7 (by simp) ?_
  simp -implicitDefEqProofs only [go_sem, evR, ints, rows, rat, rats, q059, q0kw hx, show ((0 : Int) == 1) = false from rfl, show ((1 : Int) == 1) = true from rfl, opR, Nat.reduceBEq]
  repeat (first | refine ⟨by omega, ?_⟩ | refine ⟨by rw [q0l0]; omega, ?_⟩)
  refine q006.pure (q080 (q0s8 t2 (by omega) g.nd.length n (by omega) hn (by omega))) [] rfl Try.call158 ?_ (by first | trivial | simp [T.noSh, T.noShL, rat]) rfl ?_
  · simp -implicitDefEqProofs only [agR, Nat.reduceLeDiff, Nat.reduceSub, vaR, go_sem, ints, rows, rat, rats, q0p1, rtR, intsO, q0qa]
  simp -implicitDefEqProofs only [go_sem, evR, ints, rows, rat, rats]
  rw [e2]
  refine SemC.loopR (σ := Nat) (fun k => St.of [(3, .t (.i 0)), (4, .t (.i n)), (5, .t (.i c)), (6, .own 6), (7, .own 7), (8, .own 8), (13, .own 13), (14, .own 14), (15, .t (.i (q144 g n))), (16, .own 116), (17, .t (.i k))] [(6, .box [nodes g.nd, rows g.w, rows g.v]), (7, .box [.i 0, rows s]), (8, .box [.i 1, rows t]), (13, .box [.i x.p, .i x.a, .i x.b, .i x.f, ints x.ch]), (14, .box [.i 1, rows (otOf 0 s t)]), (116, intsO ((cnts g s t 0 n c).take k))]) (fun k => k <= x.ch.length) (fun k => x.ch.length - k) 0 (Weak.of _ _ [some 6, some 7, some 8, some 13, some 14, some 38] (by simp) (by simp) ?_ ?_) (by omega) fun k hk R hn1 hr he => ?_
  · simp -implicitDefEqProofs only [ints, rows, Nat.reduceBEq, wkR, Nat.reduceEqDiff, ↓reduceIte, wrR, nodes, show (q144 g n : Int) + 1 - 1 = (q144 g n : Int) by omega, wrap64 (n := (q144 g n : Int)) (by omega) (by omega)]
  · exact ⟨⟨_, rfl, .refl _⟩, rfl, ⟨_, rfl, .refl _⟩, rfl, ⟨_, rfl, .refl _⟩, rfl, ⟨_, rfl, .refl _⟩, rfl, ⟨_, rfl, .refl _⟩, rfl, ⟨_, rfl, .refl _⟩, rfl, trivial⟩
  rcases Nat.lt_or_ge k x.ch.length with h9 | h9
  · obtain ⟨y, hy⟩ : ∃ y, x.ch[k]? = some y := ⟨_, List.getElem?_eq_getElem h9⟩
    obtain ⟨y0, y1, y2⟩ := e3 y (List.mem_of_getElem? hy)
    have hlt : ((cnts g s t 0 n c).take k).length = k := by rw [List.length_take, hcl]; omega
    simp -implicitDefEqProofs only [go_sem, evR, ints, rows, rat, rats, nodes, intsO, decide_eq_true (show (k : Int) < (x.ch.length : Int) by omega)]
    refine SemC.loopR (σ := Nat) (fun o => St.of [(3, .t (.i 0)), (4, .t (.i n)), (5, .t (.i c)), (6, .own 6), (7, .own 7), (8, .own 8), (13, .own 13), (14, .own 14), (15, .t (.i (q144 g n))), (16, .own 116), (17, .t (.i k)), (18, .t (.i (cntN g s t 0 n c y.toNat o))), (19, .t (.i o))] [(6, .box [nodes g.nd, rows g.w, rows g.v]), (7, .box [.i 0, rows s]), (8, .box [.i 1, rows t]), (13, .box [.i x.p, .i x.a, .i x.b, .i x.f, ints x.ch]), (14, .box [.i 1, rows (otOf 0 s t)]), (116, intsO ((cnts g s t 0 n c).take k))]) (fun o => o <= g.w.length) (fun o => g.w.length - o) 0 (Weak.of _ _ [some 6, some 7, some 8, some 13, some 14, some 116] (by simp) (by simp) ?_ ?_) (by omega) fun o ho R2 hn2 hr2 he2 => ?_
    · simp -implicitDefEqProofs only [ints, rows, Nat.reduceBEq, wkR, Nat.reduceEqDiff, ↓reduceIte, wrR, nodes, show cntN g s t 0 n c y.toNat 0 = 0 from rfl]
    · exact ⟨⟨_, rfl, .refl _⟩, rfl, ⟨_, rfl, .refl _⟩, rfl, ⟨_, rfl, .refl _⟩, rfl, ⟨_, rfl, .refl _⟩, rfl, ⟨_, rfl, .refl _⟩, rfl, ⟨_, rfl, .refl _⟩, rfl, trivial⟩
    rcases Nat.lt_or_ge o g.w.length with h8 | h8
    · obtain ⟨r, z, hr0, hz, hz0, hz9⟩ := q0cn hg hc h8
      have hrl : r.length = g.w.length := ((q0js.1 p3).2 r (List.mem_of_getElem? hr0)).1
      have hwz : wAt g 0 c o = z := by
        unfold wAt
        simp only [List.getD_eq_getElem?_getD, hr0, hz, Option.getD_some, if_pos]
      have hsu := q148 g s t 0 n c y.toNat o
      have k1 := q147 hg hs ht (.inl rfl) hn h2 hc (by rw [hxd]; exact List.mem_of_getElem? hy) (m := o) (by omega)
      have k2 := q147 hg hs ht (.inl rfl) hn h2 hc (by rw [hxd]; exact List.mem_of_getElem? hy) (m := o + 1) (by omega)
      have k3 := q146 hg hs ht (.inl rfl) hn h2 hc h8 (by rw [hxd]; exact List.mem_of_getElem? hy)
      have hot := (q153 hs ht (.inl rfl)).2
      obtain ⟨b1, b2⟩ := q12q (c := o) t2 t3 hot h8 n n (Nat.le_refl _) hn
      have hpw := q157 (p := (wayL g.nd n).length) (by omega)
      have hr1 := q158 (c := c) hg hs ht (.inl rfl) hn h8
      simp -implicitDefEqProofs only [go_sem, evR, ints, rows, rat, rats, nodes, intsO, hr0, hz, decide_eq_true (show (o : Int) < (g.w.length : Int) by omega), show ((0 : Int) == 1) = false from rfl, show ((1 : Int) == 1) = true from rfl]
      repeat (first | refine ⟨by omega, ?_⟩ | refine ⟨by rw [q0l0]; omega, ?_⟩)
      refine ⟨fun h5 => ?_, fun h5 => ?_⟩
      · repeat (first | refine ⟨by omega, ?_⟩ | refine ⟨by rw [q0l0]; omega, ?_⟩)
        have hcall := q0sy hg (.inr rfl) hot (c := o) (n := n) h8 hn
        have hval := q0ue (q0sn (s := (0, s)) (t := (1, t)) hg hs ht hc h8 g.nd.length y.toNat (q144 g n) (by omega) y1 y2 (by omega))
        rw [show ((y.toNat : Nat) : Int) = y by omega] at hval
        have hrw : 1 * z * wayP g (otOf 0 s t) 1 o n = rchW g s t 0 n c o := by rw [rchW, hwz]; rfl
        have hcf : rchW g s t 0 n c o * val g s t g.nd.length y.toNat c o (q144 g n) = cntF g s t 0 n c y.toNat o := rfl
        refine q004.pure hcall [] rfl Try.call209 (fun e R' hR => ?_) (by first | trivial | simp [T.noSh, T.noShL, rat]) (fun _ => rfl) ?_
        · simp -implicitDefEqProofs only [agR, Nat.reduceLeDiff, Nat.reduceSub, vaR, go_sem, ints, rows, rat, rats, q0p1, rtR, intsO, q0qa]
        simp -implicitDefEqProofs only [go_sem, evR, ints, rows, rat, rats, nodes, hy]
        repeat (first | refine ⟨by omega, ?_⟩ | refine ⟨by rw [q0l0]; omega, ?_⟩)
        refine q004.pure hval [] rfl Try.call183 (fun e R' hR => ?_) (by first | trivial | simp [T.noSh, T.noShL, rat]) (fun _ => rfl) ?_
        · simp -implicitDefEqProofs only [agR, Nat.reduceLeDiff, Nat.reduceSub, vaR, go_sem, ints, rows, rat, rats, q0p1, rtR, intsO, q0qa]
        simp -implicitDefEqProofs only [go_sem, evR, ints, rows, rat, rats]
        refine hn2 _ (o + 1) (Weak.of _ _ [some 6, some 7, some 8, some 13, some 14, some 116] (by simp) (by simp) ?_ ?_) (by omega) (by omega)
        · simp -implicitDefEqProofs only [ints, rows, Nat.reduceBEq, wkR, Nat.reduceEqDiff, ↓reduceIte, wrR, nodes, q0lb h8 (by omega), wrap64 (n := 1 * z) (by omega) (by omega), hrw, wrap64 (n := rchW g s t 0 n c o) (by omega) (by omega), hcf, wrap64 (n := cntF g s t 0 n c y.toNat o) (by omega) (by omega), ← hsu, wrap64 (n := cntN g s t 0 n c y.toNat (o + 1)) (by omega) (by omega)]
        · exact ⟨⟨_, rfl, .refl _⟩, rfl, ⟨_, rfl, .refl _⟩, rfl, ⟨_, rfl, .refl _⟩, rfl, ⟨_, rfl, .refl _⟩, rfl, ⟨_, rfl, .refl _⟩, rfl, ⟨_, rfl, .refl _⟩, rfl, trivial⟩
      · have hz0 : z = 0 := by have : ¬ z > 0 := by simpa using h5
                               omega
        have h0 : cntF g s t 0 n c y.toNat o = 0 := by rw [cntF, q159 (by rw [hwz]; exact hz0), Int.zero_mul]
        rw [h0, Int.add_zero] at hsu
        refine hn2 _ (o + 1) (Weak.of _ _ [some 6, some 7, some 8, some 13, some 14, some 116] (by simp) (by simp) ?_ ?_) (by omega) (by omega)
        · simp -implicitDefEqProofs only [ints, rows, Nat.reduceBEq, wkR, Nat.reduceEqDiff, ↓reduceIte, wrR, nodes, q0lb h8 (by omega), hsu]
        · exact ⟨⟨_, rfl, .refl _⟩, rfl, ⟨_, rfl, .refl _⟩, rfl, ⟨_, rfl, .refl _⟩, rfl, ⟨_, rfl, .refl _⟩, rfl, ⟨_, rfl, .refl _⟩, rfl, ⟨_, rfl, .refl _⟩, rfl, trivial⟩
    · simp -implicitDefEqProofs only [go_sem, evR, ints, rows, rat, rats, nodes, intsO, decide_eq_false (show ¬ (o : Int) < (g.w.length : Int) by omega)]
      refine he2 _ _ ?_
      simp -implicitDefEqProofs only [go_sem, evR, ints, rows, rat, rats, hlt]
      repeat (first | refine ⟨by omega, ?_⟩ | refine ⟨by rw [q0l0]; omega, ?_⟩)
      refine hn1 _ (k + 1) (Weak.of _ _ [some 6, some 7, some 8, some 13, some 14, some 102] (by simp) (by simp) ?_ ?_) (by omega) (by omega)
      · simp -implicitDefEqProofs only [ints, rows, Nat.reduceBEq, wkR, Nat.reduceEqDiff, ↓reduceIte, wrR, nodes, q0lb h9 (show x.ch.length <= 1000000000000 by omega)]
      · refine ⟨⟨_, rfl, .refl _⟩, rfl, ⟨_, rfl, .refl _⟩, rfl, ⟨_, rfl, .refl _⟩, rfl, ⟨_, rfl, .refl _⟩, rfl, ⟨_, rfl, .refl _⟩, rfl, ⟨_, rfl, ?_⟩, rfl, trivial⟩
        rw [hcg k y hy, show o = g.w.length by omega, intsO, List.map_append]; exact .refl _
  · simp -implicitDefEqProofs only [go_sem, evR, ints, rows, rat, rats, nodes, intsO, decide_eq_false (show ¬ (k : Int) < (x.ch.length : Int) by omega)]
    refine he _ _ ?_
    simp -implicitDefEqProofs only [go_sem, evR, ints, rows, rat, rats]
    rw [List.take_of_length_le (by omega), intsO]
theorem q0su {g : Gm} (hg : q0fl g = true) {s t : List (List Int)} (hs : q0nw g s 0) (ht : q0nw g t 1) {n c : Nat} (hn : n < g.nd.length) (h2 : (g.nd.getD n nd0).p ≠ 2) (hc : c < g.w.length) : Fun Try.prog 208 [] [.t (.agg [.sh 5 (chunk q0lu g.nd), .sh 1 (g.w.map ints), .sh 1 (g.v.map ints)]), .t (.agg [.i 0, .sh 1 (s.map ints)]), .t (.agg [.i 1, .sh 1 (t.map ints)]), .t (.i 1), .t (.i n), .t (.i c)] fun o r => o = [] /\ r = intsO (cnts g s t 1 n c) := by
  obtain ⟨p1, p2, p3, p4, p5⟩ := q0fn hg
  obtain ⟨t1, t2, t3, t4⟩ := q0g0 p1
  obtain ⟨e1, e2, e3⟩ := q145 hg hn h2
  obtain ⟨x, hx⟩ : ∃ x, g.nd[n]? = some x := ⟨_, List.getElem?_eq_getElem hn⟩
  have hxd : g.nd.getD n nd0 = x := by rw [List.getD_eq_getElem?_getD, hx]; rfl
  have hxl := (q0ks (t2 _ _ hx)).2.2.2.2.2
  have hcl := q14b g s t 1 n c
  have hcg : ∀ k y, x.ch[k]? = some y -> (cnts g s t 1 n c).take (k + 1) = (cnts g s t 1 n c).take k ++ [cntN g s t 1 n c y.toNat g.w.length] := fun k y h => q06t (by rw [hxd]; exact h)
  rw [hxd] at hcl e3
  refine q0c7 (by simp) ?_
  simp -implicitDefEqProofs only [go_sem, evR, ints, rows, rat, rats, q059, q0kw hx, show ((0 : Int) == 1) = false from rfl, show ((1 : Int) == 1) = true from rfl, opR, Nat.reduceBEq]
  repeat (first | refine ⟨by omega, ?_⟩ | refine ⟨by rw [q0l0]; omega, ?_⟩)
  refine q006.pure (q080 (q0s8 t2 (by omega) g.nd.length n (by omega) hn (by omega))) [] rfl Try.call158 ?_ (by first | trivial | simp [T.noSh, T.noShL, rat]) rfl ?_
  · simp -implicitDefEqProofs only [agR, Nat.reduceLeDiff, Nat.reduceSub, vaR, go_sem, ints, rows, rat, rats, q0p1, rtR, intsO, q0qa]
  simp -implicitDefEqProofs only [go_sem, evR, ints, rows, rat, rats]
  rw [e2]
  refine SemC.loopR (σ := Nat) (fun k => St.of [(3, .t (.i 1)), (4, .t (.i n)), (5, .t (.i c)), (6, .own 6), (7, .own 7), (8, .own 8), (13, .own 13), (14, .own 14), (15, .t (.i (q144 g n))), (16, .own 116), (17, .t (.i k))] [(6, .box [nodes g.nd, rows g.w, rows g.v]), (7, .box [.i 0, rows s]), (8, .box [.i 1, rows t]), (13, .box [.i x.p, .i x.a, .i x.b, .i x.f, ints x.ch]), (14, .box [.i 0, rows (otOf 1 s t)]), (116, intsO ((cnts g s t 1 n c).take k))]) (fun k => k <= x.ch.length) (fun k => x.ch.length - k) 0 (Weak.of _ _ [some 6, some 7, some 8, some 13, some 14, some 38] (by simp) (by simp) ?_ ?_) (by omega) fun k hk R hn1 hr he => ?_
  · simp -implicitDefEqProofs only [ints, rows, Nat.reduceBEq, wkR, Nat.reduceEqDiff, ↓reduceIte, wrR, nodes, show (q144 g n : Int) + 1 - 1 = (q144 g n : Int) by omega, wrap64 (n := (q144 g n : Int)) (by omega) (by omega)]
  · exact ⟨⟨_, rfl, .refl _⟩, rfl, ⟨_, rfl, .refl _⟩, rfl, ⟨_, rfl, .refl _⟩, rfl, ⟨_, rfl, .refl _⟩, rfl, ⟨_, rfl, .refl _⟩, rfl, ⟨_, rfl, .refl _⟩, rfl, trivial⟩
  rcases Nat.lt_or_ge k x.ch.length with h9 | h9
  · obtain ⟨y, hy⟩ : ∃ y, x.ch[k]? = some y := ⟨_, List.getElem?_eq_getElem h9⟩
    obtain ⟨y0, y1, y2⟩ := e3 y (List.mem_of_getElem? hy)
    have hlt : ((cnts g s t 1 n c).take k).length = k := by rw [List.length_take, hcl]; omega
    simp -implicitDefEqProofs only [go_sem, evR, ints, rows, rat, rats, nodes, intsO, decide_eq_true (show (k : Int) < (x.ch.length : Int) by omega)]
    refine SemC.loopR (σ := Nat) (fun o => St.of [(3, .t (.i 1)), (4, .t (.i n)), (5, .t (.i c)), (6, .own 6), (7, .own 7), (8, .own 8), (13, .own 13), (14, .own 14), (15, .t (.i (q144 g n))), (16, .own 116), (17, .t (.i k)), (18, .t (.i (cntN g s t 1 n c y.toNat o))), (19, .t (.i o))] [(6, .box [nodes g.nd, rows g.w, rows g.v]), (7, .box [.i 0, rows s]), (8, .box [.i 1, rows t]), (13, .box [.i x.p, .i x.a, .i x.b, .i x.f, ints x.ch]), (14, .box [.i 0, rows (otOf 1 s t)]), (116, intsO ((cnts g s t 1 n c).take k))]) (fun o => o <= g.w.length) (fun o => g.w.length - o) 0 (Weak.of _ _ [some 6, some 7, some 8, some 13, some 14, some 116] (by simp) (by simp) ?_ ?_) (by omega) fun o ho R2 hn2 hr2 he2 => ?_
    · simp -implicitDefEqProofs only [ints, rows, Nat.reduceBEq, wkR, Nat.reduceEqDiff, ↓reduceIte, wrR, nodes, show cntN g s t 1 n c y.toNat 0 = 0 from rfl]
    · exact ⟨⟨_, rfl, .refl _⟩, rfl, ⟨_, rfl, .refl _⟩, rfl, ⟨_, rfl, .refl _⟩, rfl, ⟨_, rfl, .refl _⟩, rfl, ⟨_, rfl, .refl _⟩, rfl, ⟨_, rfl, .refl _⟩, rfl, trivial⟩
    rcases Nat.lt_or_ge o g.w.length with h8 | h8
    · obtain ⟨r, z, hr0, hz, hz0, hz9⟩ := q0cn hg h8 hc
      have hrl : r.length = g.w.length := ((q0js.1 p3).2 r (List.mem_of_getElem? hr0)).1
      have hwz : wAt g 1 c o = z := by
        unfold wAt
        simp only [List.getD_eq_getElem?_getD, hr0, hz, Option.getD_some, show ((1 : Int) = 0) = False by simp, if_false]
      have hsu := q148 g s t 1 n c y.toNat o
      have k1 := q147 hg hs ht (.inr rfl) hn h2 hc (by rw [hxd]; exact List.mem_of_getElem? hy) (m := o) (by omega)
      have k2 := q147 hg hs ht (.inr rfl) hn h2 hc (by rw [hxd]; exact List.mem_of_getElem? hy) (m := o + 1) (by omega)
      have k3 := q146 hg hs ht (.inr rfl) hn h2 hc h8 (by rw [hxd]; exact List.mem_of_getElem? hy)
      have hot := (q153 hs ht (.inr rfl)).2
      obtain ⟨b1, b2⟩ := q12q (c := o) t2 t3 hot h8 n n (Nat.le_refl _) hn
      have hpw := q157 (p := (wayL g.nd n).length) (by omega)
      have hr1 := q158 (c := c) hg hs ht (.inr rfl) hn h8
      simp -implicitDefEqProofs only [go_sem, evR, ints, rows, rat, rats, nodes, intsO, hr0, hz, decide_eq_true (show (o : Int) < (g.w.length : Int) by omega), show ((0 : Int) == 1) = false from rfl, show ((1 : Int) == 1) = true from rfl]
      repeat (first | refine ⟨by omega, ?_⟩ | refine ⟨by rw [q0l0]; omega, ?_⟩)
      refine ⟨fun h5 => ?_, fun h5 => ?_⟩
      · repeat (first | refine ⟨by omega, ?_⟩ | refine ⟨by rw [q0l0]; omega, ?_⟩)
        have hcall := q0sy hg (.inl rfl) hot (c := o) (n := n) h8 hn
        have hval := q0ue (q0sn (s := (0, s)) (t := (1, t)) hg hs ht h8 hc g.nd.length y.toNat (q144 g n) (by omega) y1 y2 (by omega))
        rw [show ((y.toNat : Nat) : Int) = y by omega] at hval
        have hrw : (-1) * z * wayP g (otOf 1 s t) 0 o n = rchW g s t 1 n c o := by rw [rchW, hwz]; rfl
        have hcf : rchW g s t 1 n c o * val g s t g.nd.length y.toNat o c (q144 g n) = cntF g s t 1 n c y.toNat o := rfl
        refine q004.pure hcall [] rfl Try.call209 (fun e R' hR => ?_) (by first | trivial | simp [T.noSh, T.noShL, rat]) (fun _ => rfl) ?_
        · simp -implicitDefEqProofs only [agR, Nat.reduceLeDiff, Nat.reduceSub, vaR, go_sem, ints, rows, rat, rats, q0p1, rtR, intsO, q0qa]
        simp -implicitDefEqProofs only [go_sem, evR, ints, rows, rat, rats, nodes, hy]
        repeat (first | refine ⟨by omega, ?_⟩ | refine ⟨by rw [q0l0]; omega, ?_⟩)
        refine q004.pure hval [] rfl Try.call183 (fun e R' hR => ?_) (by first | trivial | simp [T.noSh, T.noShL, rat]) (fun _ => rfl) ?_
        · simp -implicitDefEqProofs only [agR, Nat.reduceLeDiff, Nat.reduceSub, vaR, go_sem, ints, rows, rat, rats, q0p1, rtR, intsO, q0qa]
        simp -implicitDefEqProofs only [go_sem, evR, ints, rows, rat, rats]
        refine hn2 _ (o + 1) (Weak.of _ _ [some 6, some 7, some 8, some 13, some 14, some 116] (by simp) (by simp) ?_ ?_) (by omega) (by omega)
        · simp -implicitDefEqProofs only [ints, rows, Nat.reduceBEq, wkR, Nat.reduceEqDiff, ↓reduceIte, wrR, nodes, q0lb h8 (by omega), wrap64 (n := (-1) * z) (by omega) (by omega), hrw, wrap64 (n := rchW g s t 1 n c o) (by omega) (by omega), hcf, wrap64 (n := cntF g s t 1 n c y.toNat o) (by omega) (by omega), ← hsu, wrap64 (n := cntN g s t 1 n c y.toNat (o + 1)) (by omega) (by omega)]
        · exact ⟨⟨_, rfl, .refl _⟩, rfl, ⟨_, rfl, .refl _⟩, rfl, ⟨_, rfl, .refl _⟩, rfl, ⟨_, rfl, .refl _⟩, rfl, ⟨_, rfl, .refl _⟩, rfl, ⟨_, rfl, .refl _⟩, rfl, trivial⟩
      · have hz0 : z = 0 := by have : ¬ z > 0 := by simpa using h5
                               omega
        have h0 : cntF g s t 1 n c y.toNat o = 0 := by rw [cntF, q159 (by rw [hwz]; exact hz0), Int.zero_mul]
        rw [h0, Int.add_zero] at hsu
        refine hn2 _ (o + 1) (Weak.of _ _ [some 6, some 7, some 8, some 13, some 14, some 116] (by simp) (by simp) ?_ ?_) (by omega) (by omega)
        · simp -implicitDefEqProofs only [ints, rows, Nat.reduceBEq, wkR, Nat.reduceEqDiff, ↓reduceIte, wrR, nodes, q0lb h8 (by omega), hsu]
        · exact ⟨⟨_, rfl, .refl _⟩, rfl, ⟨_, rfl, .refl _⟩, rfl, ⟨_, rfl, .refl _⟩, rfl, ⟨_, rfl, .refl _⟩, rfl, ⟨_, rfl, .refl _⟩, rfl, ⟨_, rfl, .refl _⟩, rfl, trivial⟩
    · simp -implicitDefEqProofs only [go_sem, evR, ints, rows, rat, rats, nodes, intsO, decide_eq_false (show ¬ (o : Int) < (g.w.length : Int) by omega)]
      refine he2 _ _ ?_
      simp -implicitDefEqProofs only [go_sem, evR, ints, rows, rat, rats, hlt]
      repeat (first | refine ⟨by omega, ?_⟩ | refine ⟨by rw [q0l0]; omega, ?_⟩)
      refine hn1 _ (k + 1) (Weak.of _ _ [some 6, some 7, some 8, some 13, some 14, some 102] (by simp) (by simp) ?_ ?_) (by omega) (by omega)
      · simp -implicitDefEqProofs only [ints, rows, Nat.reduceBEq, wkR, Nat.reduceEqDiff, ↓reduceIte, wrR, nodes, q0lb h9 (show x.ch.length <= 1000000000000 by omega)]
      · refine ⟨⟨_, rfl, .refl _⟩, rfl, ⟨_, rfl, .refl _⟩, rfl, ⟨_, rfl, .refl _⟩, rfl, ⟨_, rfl, .refl _⟩, rfl, ⟨_, rfl, .refl _⟩, rfl, ⟨_, rfl, ?_⟩, rfl, trivial⟩
        rw [hcg k y hy, show o = g.w.length by omega, intsO, List.map_append]; exact .refl _
  · simp -implicitDefEqProofs only [go_sem, evR, ints, rows, rat, rats, nodes, intsO, decide_eq_false (show ¬ (k : Int) < (x.ch.length : Int) by omega)]
    refine he _ _ ?_
    simp -implicitDefEqProofs only [go_sem, evR, ints, rows, rat, rats]
    rw [List.take_of_length_le (by omega), intsO]
end
end Go.Ab
