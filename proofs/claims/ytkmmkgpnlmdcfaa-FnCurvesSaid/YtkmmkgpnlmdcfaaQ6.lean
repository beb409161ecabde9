/- Contracts: numbers of games. -/
import Derived.Test.YtkmmkgpnlmdcfaaQ5
set_option linter.unusedSimpArgs false
set_option linter.unusedVariables false
set_option maxRecDepth 20000
namespace Go.Ab
open Go.Proofs

def evO (g : Gm) (s t : List (List Int)) : T := .box [nodes g.nd, rows g.w, rows g.v, intsO (ownL g 0), intsO (ownL g 1), rows s, rows t, intsO (parN g.nd g.nd.length)]
def evL (g : Gm) (s t : List (List Int)) : List T := [nodes g.nd, rows g.w, rows g.v, ints (ownL g 0), ints (ownL g 1), rows s, rows t, ints (parN g.nd g.nd.length)]
def evB (g : Gm) (s t : List (List Int)) (c3 c4 : T) (par : List Int) : T := .box [nodes g.nd, rows g.w, rows g.v, c3, c4, rows s, rows t, intsO par]
def evC (g : Gm) (q : Int) (b : Bool) : T := if b = true then intsO (ownL g q) else .v (.slice none 0 0)
theorem q0ns {l : List Nd} {i : Nat} {x : Nd} (hx : l[i]? = some x) : parN l (i + 1) = x.ch.foldl (fun P (c : Int) => P.set c.toNat (i : Int)) (parN l i) := by
  rw [parN, List.getD_eq_getElem?_getD, hx]; rfl
def parK (P ch : List Int) (i k : Nat) : List Int := (ch.take k).foldl (fun P (c : Int) => P.set c.toNat (i : Int)) P
theorem q0nr {P ch : List Int} {i k m : Nat} (h : ch[k]? = some (m : Int)) : parK P ch i (k + 1) = (parK P ch i k).set m (i : Int) := by
  simp only [parK, q0uj h, List.foldl_append, List.foldl_cons, List.foldl_nil, Int.toNat_natCast]
theorem q0nq (P ch : List Int) (i k : Nat) : (parK P ch i k).length = P.length := by rw [parK, q0z9]
section
attribute [-go_sem] q0i5 q0id fldC lenC idxC q0ip q0lp
theorem q0eq (g : Gm) (s t : Int × List (List Int)) (hg : q0fl g = true) : Fun Try.prog 179 [] [.t (q0ck g), .t (q0tu s), .t (q0tu t)] fun o r => o = [] /\ r = evO g s.2 t.2 := by
  obtain ⟨p1, p2, p3, p4, p5⟩ := q0fn hg
  obtain ⟨t1, t2, t3, t4⟩ := q0g0 p1
  have hfl : ∀ q j, (q0z5 (idxs g.nd q g.nd.length) g.w.length g.nd.length j).length = g.nd.length := fun q j => q0z7 _ _ _ _
  have hfs : ∀ q j (n : Nat), (idxs g.nd q g.nd.length)[j]? = some (n : Int) -> q0z5 (idxs g.nd q g.nd.length) g.w.length g.nd.length (j + 1) = (q0z5 (idxs g.nd q g.nd.length) g.w.length g.nd.length j).set n ((j * g.w.length : Nat) : Int) := fun q j n h => by
    rw [q0z5, List.getD_eq_getElem?_getD, h]; rfl
  have hmul : ∀ n : Nat, n <= g.nd.length -> n * g.w.length <= 60 * 6 := fun n hn => Nat.mul_le_mul (by omega) p2.2
  have hoL : ∀ q, ownL g q = q0z5 (idxs g.nd q g.nd.length) g.w.length g.nd.length (idxs g.nd q g.nd.length).length := fun q => rfl
  have w1 : IntKind.i64.wrap 1 = 1 := rfl
  have w2' : IntKind.i64.wrap (1 + 1) = 2 := rfl
  refine q0ai (by simp) ?_
  simp -implicitDefEqProofs only [eR', go_sem, q03k, q0ck, q0tu, nodes, q0jc]
  refine ⟨by omega, by omega, ?_⟩
  refine SemC.loopR (σ := Nat) (fun q => St.of [(3, .own 3), (7, .own 27), (28, .t (.i q))] [(3, .box [nodes g.nd, rows g.w, rows g.v]), (27, evB g s.2 t.2 (evC g 0 (decide (0 < q))) (evC g 1 (decide (1 < q))) (List.replicate g.nd.length 0))]) (fun q => q <= 2) (fun q => 2 - q) 0 (Weak.o _ _ [some 3, some 27] ?_ ?_) (by omega) fun q hq R hn hr he => ?_
  . simp -implicitDefEqProofs only [wR', Nat.reduceBEq, Nat.reduceEqDiff, ↓reduceIte, nodes]
  . refine ⟨⟨_, rfl, .refl _⟩, rfl, ⟨_, rfl, ?_⟩, rfl, trivial⟩
    rw [evB, intsO, List.map_replicate]; exact .refl _
  . match q, hq with
    | 0, _ =>
      simp -implicitDefEqProofs only [eR', go_sem, evB, evC, nodes, intsO, decide_eq_true (show (0 : Int) < 2 by omega), Nat.lt_irrefl, decide_false, Bool.false_eq_true, Int.natCast_zero, Int.cast_ofNat_Int, opR, Nat.reduceBEq]
      refine ⟨by omega, by omega, ?_⟩
      refine q006.res (q0et g.nd 0 (by omega)) [] rfl Try.call181 ?_ (.inl rfl) ?_
      . simp -implicitDefEqProofs only [aR', go_sem]
      simp -implicitDefEqProofs only [cR', go_sem, intsO]
      have hil := q0e7 g.nd 0 g.nd.length
      refine SemC.loopR (σ := Nat) (fun j => St.of [(3, .own 3), (7, .own 27), (8, .t (.i 0)), (28, .t (.i 0)), (44, .own 44), (45, .t (.i (idxs g.nd 0 g.nd.length).length)), (46, .t (.i j))] [(3, .box [nodes g.nd, rows g.w, rows g.v]), (27, evB g s.2 t.2 (intsO (q0z5 (idxs g.nd 0 g.nd.length) g.w.length g.nd.length j)) (.v (.slice none 0 0)) (List.replicate g.nd.length 0)), (44, intsO (idxs g.nd 0 g.nd.length))]) (fun j => j <= (idxs g.nd 0 g.nd.length).length) (fun j => (idxs g.nd 0 g.nd.length).length - j) 0 (Weak.o _ _ [some 3, some 27, some 44] ?_ ?_) (by omega) fun j hj R2 hn2 hr2 he2 => ?_
      . simp -implicitDefEqProofs only [wR', Nat.reduceBEq, Nat.reduceEqDiff, ↓reduceIte, nodes]
      . refine ⟨⟨_, rfl, .refl _⟩, rfl, ⟨_, rfl, ?_⟩, rfl, ⟨_, rfl, .refl _⟩, rfl, trivial⟩
        simp only [evB, q0z5, q0jc, intsO, List.map_replicate]; exact .refl _
      . rcases Nat.lt_or_ge j (idxs g.nd 0 g.nd.length).length with h9 | h9
        . obtain ⟨y, hy⟩ : ∃ y, (idxs g.nd 0 g.nd.length)[j]? = some y := ⟨_, List.getElem?_eq_getElem h9⟩
          obtain ⟨n, rfl, hn1⟩ := q0e9 hy
          have hjm := hmul j (by omega)
          simp -implicitDefEqProofs only [eR', go_sem, evB, nodes, hy, intsO, decide_eq_true (show (j : Int) < ((idxs g.nd 0 g.nd.length).length : Int) by omega), hfl]
          refine ⟨by omega, by omega, by omega, ?_⟩
          refine ⟨_, Weak.open 27 3 500 rfl rfl rfl (by decide) rfl, ?_⟩
          simp -implicitDefEqProofs only [eR', go_sem, opR, Nat.reduceBEq, hfl]
          refine ⟨by omega, by omega, by omega, by omega, hn2 _ (j + 1) (Weak.trans (Weak.close1 27 3 500 rfl rfl (by decide) rfl) (Weak.o _ _ [some 3, some 27, some 44] ?_ ?_)) (by omega) (by omega)⟩
          . simp -implicitDefEqProofs only [wR', Nat.reduceBEq, Nat.reduceEqDiff, ↓reduceIte, nodes, q0lb h9 (by omega)]
          . refine ⟨⟨_, rfl, .refl _⟩, rfl, ⟨_, rfl, ?_⟩, rfl, ⟨_, rfl, .refl _⟩, rfl, trivial⟩
            rw [hfs _ _ _ hy]; simp only [evB, intsO, List.map_set]; rw [wrap64 (n := (j : Int) * (g.w.length : Int)) (by omega) (by omega), ← Int.natCast_mul]; exact .refl _
        . have hjl : j = (idxs g.nd 0 g.nd.length).length := by omega
          subst hjl
          simp -implicitDefEqProofs only [eR', go_sem, evB, nodes, intsO, decide_eq_false (show ¬ ((idxs g.nd 0 g.nd.length).length : Int) < ((idxs g.nd 0 g.nd.length).length : Int) by omega)]
          refine he2 _ _ ?_
          simp -implicitDefEqProofs only [eR', go_sem]
          rw [← hoL]
          refine hn _ 1 (Weak.o _ _ [some 3, some 27] ?_ ?_) (by omega) (by omega)
          . simp -implicitDefEqProofs only [wR', Nat.reduceBEq, Nat.reduceEqDiff, ↓reduceIte, nodes, Int.zero_add, w1]
          . exact ⟨⟨_, rfl, .refl _⟩, rfl, ⟨_, rfl, .refl _⟩, rfl, trivial⟩
    | 1, _ =>
      simp -implicitDefEqProofs only [eR', go_sem, evB, evC, nodes, intsO, decide_eq_true (show (1 : Int) < 2 by omega), Nat.lt_irrefl, Nat.zero_lt_one, decide_true, decide_false, Bool.false_eq_true, Int.natCast_zero, Int.cast_ofNat_Int, opR, Nat.reduceBEq]
      refine ⟨by omega, by omega, ?_⟩
      refine q006.res (q0et g.nd 1 (by omega)) [] rfl Try.call181 ?_ (.inl rfl) ?_
      . simp -implicitDefEqProofs only [aR', go_sem]
      simp -implicitDefEqProofs only [cR', go_sem, intsO]
      have hil := q0e7 g.nd 1 g.nd.length
      refine SemC.loopR (σ := Nat) (fun j => St.of [(3, .own 3), (7, .own 27), (8, .t (.i 1)), (28, .t (.i 1)), (44, .own 44), (45, .t (.i (idxs g.nd 1 g.nd.length).length)), (46, .t (.i j))] [(3, .box [nodes g.nd, rows g.w, rows g.v]), (27, evB g s.2 t.2 (intsO (ownL g 0)) (intsO (q0z5 (idxs g.nd 1 g.nd.length) g.w.length g.nd.length j)) (List.replicate g.nd.length 0)), (44, intsO (idxs g.nd 1 g.nd.length))]) (fun j => j <= (idxs g.nd 1 g.nd.length).length) (fun j => (idxs g.nd 1 g.nd.length).length - j) 0 (Weak.o _ _ [some 3, some 27, some 44] ?_ ?_) (by omega) fun j hj R2 hn2 hr2 he2 => ?_
      . simp -implicitDefEqProofs only [wR', Nat.reduceBEq, Nat.reduceEqDiff, ↓reduceIte, nodes]
      . refine ⟨⟨_, rfl, .refl _⟩, rfl, ⟨_, rfl, ?_⟩, rfl, ⟨_, rfl, .refl _⟩, rfl, trivial⟩
        simp only [evB, q0z5, q0jc, intsO, List.map_replicate]; exact .refl _
      . rcases Nat.lt_or_ge j (idxs g.nd 1 g.nd.length).length with h9 | h9
        . obtain ⟨y, hy⟩ : ∃ y, (idxs g.nd 1 g.nd.length)[j]? = some y := ⟨_, List.getElem?_eq_getElem h9⟩
          obtain ⟨n, rfl, hn1⟩ := q0e9 hy
          have hjm := hmul j (by omega)
          simp -implicitDefEqProofs only [eR', go_sem, evB, nodes, hy, intsO, decide_eq_true (show (j : Int) < ((idxs g.nd 1 g.nd.length).length : Int) by omega), hfl]
          refine ⟨by omega, by omega, by omega, ?_⟩
          refine ⟨_, Weak.open 27 4 500 rfl rfl rfl (by decide) rfl, ?_⟩
          simp -implicitDefEqProofs only [eR', go_sem, opR, Nat.reduceBEq, hfl]
          refine ⟨by omega, by omega, by omega, by omega, hn2 _ (j + 1) (Weak.trans (Weak.close1 27 4 500 rfl rfl (by decide) rfl) (Weak.o _ _ [some 3, some 27, some 44] ?_ ?_)) (by omega) (by omega)⟩
          . simp -implicitDefEqProofs only [wR', Nat.reduceBEq, Nat.reduceEqDiff, ↓reduceIte, nodes, q0lb h9 (by omega)]
          . refine ⟨⟨_, rfl, .refl _⟩, rfl, ⟨_, rfl, ?_⟩, rfl, ⟨_, rfl, .refl _⟩, rfl, trivial⟩
            rw [hfs _ _ _ hy]; simp only [evB, intsO, List.map_set]; rw [wrap64 (n := (j : Int) * (g.w.length : Int)) (by omega) (by omega), ← Int.natCast_mul]; exact .refl _
        . have hjl : j = (idxs g.nd 1 g.nd.length).length := by omega
          subst hjl
          simp -implicitDefEqProofs only [eR', go_sem, evB, nodes, intsO, decide_eq_false (show ¬ ((idxs g.nd 1 g.nd.length).length : Int) < ((idxs g.nd 1 g.nd.length).length : Int) by omega)]
          refine he2 _ _ ?_
          simp -implicitDefEqProofs only [eR', go_sem]
          rw [← hoL]
          refine hn _ 2 (Weak.o _ _ [some 3, some 27] ?_ ?_) (by omega) (by omega)
          . simp -implicitDefEqProofs only [wR', Nat.reduceBEq, Nat.reduceEqDiff, ↓reduceIte, nodes, w2']
          . exact ⟨⟨_, rfl, .refl _⟩, rfl, ⟨_, rfl, .refl _⟩, rfl, trivial⟩
    | 2, _ =>
      simp -implicitDefEqProofs only [eR', go_sem, evB, evC, nodes, intsO, decide_eq_false (show ¬ (2 : Int) < 2 by omega), Nat.lt_irrefl, decide_false, Bool.false_eq_true, Int.natCast_zero, Int.cast_ofNat_Int]
      refine he _ _ ?_
      simp -implicitDefEqProofs only [eR', go_sem]
      refine SemC.loopR (σ := Nat) (fun i => St.of [(7, .own 27), (68, .t (nodes g.nd)), (69, .t (.i g.nd.length)), (70, .t (.i i))] [(27, evB g s.2 t.2 (intsO (ownL g 0)) (intsO (ownL g 1)) (parN g.nd i))]) (fun i => i <= g.nd.length) (fun i => g.nd.length - i) 0 (Weak.o _ _ [some 27] ?_ ?_) (by omega) fun i hi R3 hn3 hr3 he3 => ?_
      . simp -implicitDefEqProofs only [wR', Nat.reduceBEq, Nat.reduceEqDiff, ↓reduceIte, nodes, q0l0]
      . exact ⟨⟨_, rfl, .refl _⟩, rfl, trivial⟩
      . rcases Nat.lt_or_ge i g.nd.length with h9 | h9
        . obtain ⟨x, hx⟩ : ∃ x, g.nd[i]? = some x := ⟨_, List.getElem?_eq_getElem h9⟩
          have hch := q0kp (t2 i _ hx)
          obtain ⟨_, _, _, _, _, hch4⟩ := q0ks (t2 i _ hx)
          simp -implicitDefEqProofs only [eR', go_sem, nodes, q0kw hx, decide_eq_true (show (i : Int) < (g.nd.length : Int) by omega), opR, Nat.reduceBEq]
          refine ⟨by omega, by rw [q0l0]; omega, by rw [q0l0]; omega, ?_⟩
          refine SemC.loopR (σ := Nat) (fun k => St.of [(7, .own 27), (11, .t (.i i)), (68, .t (nodes g.nd)), (69, .t (.i g.nd.length)), (70, .t (.i i)), (76, .t (ints x.ch)), (77, .t (.i x.ch.length)), (78, .t (.i k))] [(27, evB g s.2 t.2 (intsO (ownL g 0)) (intsO (ownL g 1)) (parK (parN g.nd i) x.ch i k))]) (fun k => k <= x.ch.length) (fun k => x.ch.length - k) 0 (Weak.o _ _ [some 27] ?_ ?_) (by omega) fun k hk R4 hn4 hr4 he4 => ?_
          . simp -implicitDefEqProofs only [wR', Nat.reduceBEq, Nat.reduceEqDiff, ↓reduceIte, nodes]
          . exact ⟨⟨_, rfl, .refl _⟩, rfl, trivial⟩
          . rcases Nat.lt_or_ge k x.ch.length with h10 | h10
            . obtain ⟨c, hc⟩ : ∃ c, x.ch[k]? = some c := ⟨_, List.getElem?_eq_getElem h10⟩
              have hcb := hch c (List.mem_of_getElem? hc)
              obtain ⟨m, rfl⟩ : ∃ m : Nat, c = m := ⟨c.toNat, by omega⟩
              have hpl : (parK (parN g.nd i) x.ch i k).length = g.nd.length := by rw [q0nq, q112]
              simp -implicitDefEqProofs only [eR', go_sem, evB, nodes, intsO, hc, decide_eq_true (show (k : Int) < (x.ch.length : Int) by omega), hpl, opR, Nat.reduceBEq]
              refine ⟨by omega, by omega, by omega, by omega, by omega, by omega, hn4 _ (k + 1) (Weak.trans (Weak.close1 27 7 85 rfl rfl (by decide) rfl) (Weak.o _ _ [some 27] ?_ ?_)) (by omega) (by omega)⟩
              . simp -implicitDefEqProofs only [wR', Nat.reduceBEq, Nat.reduceEqDiff, ↓reduceIte, nodes, q0lb h10 (show x.ch.length <= 1000000000000 by omega)]
              . refine ⟨⟨_, rfl, ?_⟩, rfl, trivial⟩
                rw [q0nr hc]; simp only [evB, intsO, List.map_set]; exact .refl _
            . simp -implicitDefEqProofs only [eR', go_sem, evB, nodes, intsO, decide_eq_false (show ¬ (k : Int) < (x.ch.length : Int) by omega)]
              refine he4 _ _ ?_
              simp -implicitDefEqProofs only [eR', go_sem]
              refine hn3 _ (i + 1) (Weak.o _ _ [some 27] ?_ ?_) (by omega) (by omega)
              . simp -implicitDefEqProofs only [wR', Nat.reduceBEq, Nat.reduceEqDiff, ↓reduceIte, nodes, q0lb h9 (by omega)]
              . refine ⟨⟨_, rfl, ?_⟩, rfl, trivial⟩
                rw [q0ns hx, show k = x.ch.length by omega, parK, List.take_of_length_le (Nat.le_refl _)]; exact .refl _
        . simp -implicitDefEqProofs only [eR', go_sem, nodes, decide_eq_false (show ¬ (i : Int) < (g.nd.length : Int) by omega)]
          refine he3 _ _ ?_
          simp -implicitDefEqProofs only [eR', go_sem, evB]
          rw [show i = g.nd.length by omega]; rfl
end

def chP (g : Gm) (s t : List (List Int)) (i a b : Nat) : List Int := if (g.nd.getD i nd0).p = 0 then partsOf g s 0 i a else partsOf g t 1 i b
theorem q0ny {g : Gm} {pt : List (List Int)} {pl : Int} (hnd : q0l2 g.nd) (hpl : pl ≠ 2) (h : q0nw g pt pl) {i c : Nat} (hi : i < g.nd.length) (hc : c < g.w.length) (hp : (g.nd.getD i nd0).p = pl) : pt[setI g pl i c]? = some (partsOf g pt pl i c) := by
  obtain ⟨m1, m2, m3⟩ := h i c hi hc hp
  unfold partsOf at m3 ⊢
  rw [List.getD_eq_getElem?_getD] at m3 ⊢
  cases hx : pt[setI g pl i c]? with
  | some x => rfl
  | none => rw [hx] at m3; simp [sumI] at m3
theorem q061 {g : Gm} {s t : List (List Int)} (hnd : q0l2 g.nd) (hs : q0nw g s 0) (ht : q0nw g t 1) {i a b : Nat} (hi : i < g.nd.length) (ha : a < g.w.length) (hb : b < g.w.length) (h2 : (g.nd.getD i nd0).p ≠ 2) :
    (chP g s t i a b).length = (g.nd.getD i nd0).ch.length /\ (∀ x ∈ chP g s t i a b, 0 <= x /\ x <= 60) /\ sumI (chP g s t i a b) = 60 := by
  have hx : g.nd[i]? = some (g.nd.getD i nd0) := by rw [List.getD_eq_getElem?_getD, List.getElem?_eq_getElem hi]; rfl
  obtain ⟨⟨r1, r2⟩, _⟩ := q0ks (hnd i _ hx)
  unfold chP
  by_cases h0 : (g.nd.getD i nd0).p = 0
  . rw [if_pos h0]; exact hs i a hi ha h0
  . rw [if_neg h0]; exact ht i b hi hb (by omega)
theorem q0xb {g : Gm} {s t : List (List Int)} {f i a b p : Nat} (h2 : (g.nd.getD i nd0).p ≠ 2) {n : Nat} (hn : (g.nd.getD i nd0).ch.length <= n) : valK g s t f a b (p - 1) (chP g s t i a b) (g.nd.getD i nd0).ch n = val g s t (f + 1) i a b p := by
  rw [val]
  (try simp only [])
  rw [if_neg h2, valK, chP, List.take_of_length_le]
  rw [List.length_zipWith]; omega
theorem q0xa {g : Gm} {s t : List (List Int)} (hnd : q0l2 g.nd) (hs : q0nw g s 0) (ht : q0nw g t 1) {a b : Nat} (ha : a < g.w.length) (hb : b < g.w.length) {f p : Nat} {q ch : List Int} (hq : ∀ x ∈ q, 0 <= x /\ x <= 60) (hc : ∀ c ∈ ch, 0 <= c /\ c.toNat < g.nd.length /\ dep g.nd f c.toNat <= p) : ∀ k, k <= q.length -> k <= ch.length -> -(k * (6000 * pw p)) <= valK g s t f a b p q ch k /\ valK g s t f a b p q ch k <= k * (6000 * pw p)
  | 0, _, _ => by simp [valK, sumI]
  | k + 1, h, h' => by
    have ih := q0xa hnd hs ht ha hb hq hc k (by omega) (by omega)
    have hx := List.getElem?_eq_getElem (show k < q.length by omega)
    have hy := List.getElem?_eq_getElem (show k < ch.length by omega)
    rw [q12n hx hy]
    have h1 := hq _ (List.getElem_mem (show k < q.length by omega))
    have h2 := hc _ (List.getElem_mem (show k < ch.length by omega))
    have h3 := q12o hnd hs ht ha hb f _ p h2.2.1 h2.2.2
    obtain ⟨m1, m2⟩ := q0kl h1.1 h3.1 h3.2
    have hp := q0ok p
    have m3 : 100 * pw p * q[k] <= 100 * pw p * 60 := Int.mul_le_mul_of_nonneg_left h1.2 (by omega)
    have e : ((k + 1 : Nat) : Int) * (6000 * pw p) = (k : Int) * (6000 * pw p) + 6000 * pw p := by rw [Int.natCast_succ, Int.add_mul, Int.one_mul]
    rw [e]
    generalize (k : Int) * (6000 * pw p) = Z at ih ⊢
    generalize q[k] * val g s t f (ch[k]).toNat a b p = Y at m1 m2 ⊢
    generalize 100 * pw p * q[k] = U at m1 m2 m3
    omega
theorem q0oj {p : Nat} (h : p <= 5) : 1 <= pw p /\ pw p <= 777600000 := by
  have : p = 0 ∨ p = 1 ∨ p = 2 ∨ p = 3 ∨ p = 4 ∨ p = 5 := by omega
  rcases this with rfl | rfl | rfl | rfl | rfl | rfl <;> decide

theorem q0u6 (F : Nat -> Int) (n : Nat) : sumI ((List.range (n + 1)).map F) = sumI ((List.range n).map F) + F n := by
  rw [List.range_succ, List.map_append, List.map_cons, List.map_nil, q0u7]
section
attribute [-go_sem] q0i5 q0id fldC lenC idxC q0ip q0lp
theorem q0eu {g : Gm} {s t : List (List Int)} (hg : q0fl g = true) (hs : q0nw g s 0) (ht : q0nw g t 1) {i a b : Nat} (hi : i < g.nd.length) (ha : a < g.w.length) (hb : b < g.w.length) (h2 : (g.nd.getD i nd0).p ≠ 2) :
    Pure Try.prog 214 [.pin (evL g s t) 0, .i i, .i a, .i b] (ints (chP g s t i a b)) := by
  obtain ⟨p1, p2, p3, p4, p5⟩ := q0fn hg
  obtain ⟨t1, t2, t3, t4⟩ := q0g0 p1
  obtain ⟨x, hx⟩ : ∃ x, g.nd[i]? = some x := ⟨_, List.getElem?_eq_getElem hi⟩
  have hxd : g.nd.getD i nd0 = x := by rw [List.getD_eq_getElem?_getD, hx]; rfl
  obtain ⟨⟨r1, r2⟩, _⟩ := q0ks (t2 _ _ hx)
  rw [hxd] at h2
  refine q0a0 (by simp) ?_
  have hcase : x.p = 0 ∨ x.p = 1 := by omega
  rcases hcase with h0 | h0
  . have hpd : (g.nd.getD i nd0).p = 0 := by rw [hxd]; exact h0
    have hrow := q0ny t2 (by decide) hs hi ha hpd
    have hoi := q10y hi hpd
    have hol := q10z g 0
    have hrl := (List.getElem?_eq_some_iff.1 hrow).1
    have hset : setI g 0 i a = (idxs g.nd 0 i).length * g.w.length + a := rfl
    have hil := q0e7 g.nd 0 i
    have hm : (idxs g.nd 0 i).length * g.w.length <= 60 * 6 := Nat.mul_le_mul (by omega) p2.2
    rw [chP, if_pos hpd]
    simp -implicitDefEqProofs only [eR', go_sem, q032, evL, nodes, q0ky hx, h0, hoi, hrow, hol, show ((0 : Int) == 1) = false from rfl, show ((1 : Int) == 1) = true from rfl, show IntKind.i64.wrap ((((idxs g.nd 0 i).length * g.w.length : Nat) : Int) + (a : Int)) = ((setI g 0 i a : Nat) : Int) by rw [wrap64 (by omega) (by omega)]; omega]
    rw [q0l0]; omega
  . have hpd : (g.nd.getD i nd0).p = 1 := by rw [hxd]; exact h0
    have hrow := q0ny t2 (by decide) ht hi hb hpd
    have hoi := q10y hi hpd
    have hol := q10z g 1
    have hrl := (List.getElem?_eq_some_iff.1 hrow).1
    have hset : setI g 1 i b = (idxs g.nd 1 i).length * g.w.length + b := rfl
    have hil := q0e7 g.nd 1 i
    have hm : (idxs g.nd 1 i).length * g.w.length <= 60 * 6 := Nat.mul_le_mul (by omega) p2.2
    rw [chP, if_neg (by omega)]
    simp -implicitDefEqProofs only [eR', go_sem, q032, evL, nodes, q0ky hx, h0, hoi, hrow, hol, show ((0 : Int) == 1) = false from rfl, show ((1 : Int) == 1) = true from rfl, show IntKind.i64.wrap ((((idxs g.nd 1 i).length * g.w.length : Nat) : Int) + (b : Int)) = ((setI g 1 i b : Nat) : Int) by rw [wrap64 (by omega) (by omega)]; omega]
    rw [q0l0]; omega
theorem q0nv {g : Gm} {s t : List (List Int)} (hg : q0fl g = true) (hs : q0nw g s 0) (ht : q0nw g t 1) {i a b : Nat} (hi : i < g.nd.length) (ha : a < g.w.length) (hb : b < g.w.length) (h2 : (g.nd.getD i nd0).p ≠ 2) :
    Pure Try.prog 214 [.pin [.sh 5 (chunk q0lu g.nd), .sh 1 (g.w.map ints), .sh 1 (g.v.map ints), .sh 1 ((ownL g 0).map T.i), .sh 1 ((ownL g 1).map T.i), .sh 1 (s.map ints), .sh 1 (t.map ints), .sh 1 ((parN g.nd g.nd.length).map T.i)] 0, .i i, .i a, .i b] (ints (chP g s t i a b)) := q0eu hg hs ht hi ha hb h2
theorem q0xc {g : Gm} {s t : List (List Int)} {i a b p : Int} {r : Int} (h : Pure Try.prog 180 [.pin (evL g s t) 0, .i i, .i a, .i b, .i p] (.i r)) :
    Pure Try.prog 180 [.pin [.sh 5 (chunk q0lu g.nd), .sh 1 (g.w.map ints), .sh 1 (g.v.map ints), .sh 1 ((ownL g 0).map T.i), .sh 1 ((ownL g 1).map T.i), .sh 1 (s.map ints), .sh 1 (t.map ints), .sh 1 ((parN g.nd g.nd.length).map T.i)] 0, .i i, .i a, .i b, .i p] (.i r) := h
theorem q0f7 {g : Gm} {s t : List (List Int)} (hg : q0fl g = true) (hs : q0nw g s 0) (ht : q0nw g t 1) {a b : Nat} (ha : a < g.w.length) (hb : b < g.w.length) : ∀ (f i p : Nat), g.nd.length <= i + f -> i < g.nd.length -> dep g.nd f i <= p -> p <= 5 →
    Pure Try.prog 180 [.pin (evL g s t) 0, .i i, .i a, .i b, .i p] (.i (val g s t f i a b p)) := by
  obtain ⟨p1, p2, p3, p4, p5⟩ := q0fn hg
  obtain ⟨t1, t2, t3, t4⟩ := q0g0 p1
  have hpay := q0o0 t2
  intro f
  induction f with
  | zero => intro i p h1 h2; omega
  | succ f ih =>
    intro i p hf hi hdp hp5
    obtain ⟨x, hx⟩ : ∃ x, g.nd[i]? = some x := ⟨_, List.getElem?_eq_getElem hi⟩
    have hxd : g.nd.getD i nd0 = x := by rw [List.getD_eq_getElem?_getD, hx]; rfl
    have hxl := (q0ks (t2 _ _ hx)).2.2.2.2.2
    have hpw := q0oj hp5
    have hV2 : x.p = 2 -> val g s t (f + 1) i a b p = pay g i a b * pw p := fun h => by rw [val]; (try simp only []); rw [if_pos (by rw [hxd]; exact h)]
    have hV1 : x.p ≠ 2 -> ∀ n, x.ch.length <= n -> valK g s t f a b (p - 1) (chP g s t i a b) x.ch n = val g s t (f + 1) i a b p := fun h n hn => by
      have := q0xb (g := g) (s := s) (t := t) (f := f) (i := i) (a := a) (b := b) (p := p) (n := n) (by rw [hxd]; exact h) (by rw [hxd]; exact hn)
      rw [hxd] at this; exact this
    generalize val g s t (f + 1) i a b p = V' at hV2 hV1 ⊢
    refine q0a1 (by simp) ?_
    simp -implicitDefEqProofs only [eR', go_sem, q033, evL, nodes, q0kw hx]
    refine ⟨by omega, by rw [q0l0]; omega, by rw [q0l0]; omega, ?_⟩
    refine ⟨fun h2 => ?_, fun h2 => ?_⟩
    . have h2 : x.p = 2 := by simpa using h2
      rw [hV2 h2]
      refine q006.p (q0o5 hg i a b hi ha hb) [] rfl Try.call213 ?_ ?_
      . simp -implicitDefEqProofs only [aR', go_sem]
      simp -implicitDefEqProofs only [eR', go_sem]
      refine q006.p (q0ex p (by omega)) [] rfl Try.call163 ?_ ?_
      . simp -implicitDefEqProofs only [aR', go_sem]
      simp -implicitDefEqProofs only [eR', go_sem]
      have q1 := hpay i a b
      have m1 := Int.mul_le_mul_of_nonneg_right q1.2 (show 0 <= pw p by omega)
      have m2 := Int.mul_le_mul_of_nonneg_right q1.1 (show 0 <= pw p by omega)
      rw [wrap64 (n := pay g i a b * pw p) (by omega) (by omega)]
    . have h2 : x.p ≠ 2 := by simpa using h2
      have hp2 : (g.nd.getD i nd0).p ≠ 2 := by rw [hxd]; exact h2
      obtain ⟨d1, d2⟩ := q07w (f := f) hp2
      rw [hxd] at d2
      have hch := q0kp (t2 _ _ hx)
      obtain ⟨c1, c2, c3⟩ := q061 t2 hs ht hi ha hb hp2
      rw [hxd] at c1
      obtain ⟨p', rfl⟩ : ∃ p', p = p' + 1 := ⟨p - 1, by omega⟩
      have hpw' := q0oj (show p' <= 5 by omega)
      have hcond : ∀ c ∈ x.ch, 0 <= c /\ c.toNat < g.nd.length /\ dep g.nd f c.toNat <= p' := fun c hc => by
        have h1 := hch c hc
        have h3 := d2 c hc
        omega
      refine q006.res (q0nv hg hs ht hi ha hb hp2) [] rfl Try.call214 ?_ (.inl rfl) ?_
      . simp -implicitDefEqProofs only [aR', go_sem]
      simp -implicitDefEqProofs only [cR', go_sem, ints]
      rw [Nat.add_sub_cancel] at hV1
      generalize chP g s t i a b = q at hV1 c1 c2 c3 ⊢
      have hKA := q0xa t2 hs ht ha hb (f := f) c2 hcond
      refine SemC.loopR (σ := Nat) (fun k => St.of [(0, .t (.pin (evL g s t) 0)), (1, .t (.i i)), (2, .t (.i a)), (3, .t (.i b)), (4, .t (.i (p' + 1 : Nat))), (11, .own 11), (12, .t (.i (valK g s t f a b p' q x.ch k))), (42, .t (ints q)), (43, .t (.i q.length)), (44, .t (.i k))] [(11, .box [.i x.p, .i x.a, .i x.b, .i x.f, ints x.ch])]) (fun k => k <= q.length) (fun k => q.length - k) 0 (Weak.o _ _ [some 11] ?_ ?_) (by omega) fun k hk R hn hr he => ?_
      . simp -implicitDefEqProofs only [wR', Nat.reduceBEq, Nat.reduceEqDiff, ↓reduceIte, evL, nodes, show valK g s t f a b p' q x.ch 0 = 0 from rfl]
      . exact ⟨⟨_, rfl, .refl _⟩, rfl, trivial⟩
      . rcases Nat.lt_or_ge k q.length with h9 | h9
        . obtain ⟨y, hy⟩ : ∃ y, q[k]? = some y := ⟨_, List.getElem?_eq_getElem h9⟩
          obtain ⟨c, hc⟩ : ∃ c, x.ch[k]? = some c := ⟨_, List.getElem?_eq_getElem (by omega)⟩
          have hyb := c2 y (List.mem_of_getElem? hy)
          have hcb := hcond c (List.mem_of_getElem? hc)
          have hcb1 := hch c (List.mem_of_getElem? hc)
          have hsu := q12n (g := g) (s := s) (t := t) (f := f) (a := a) (b := b) (p := p') hy hc
          have k1 := hKA k (by omega) (by omega)
          have k2 := hKA (k + 1) (by omega) (by omega)
          have k3 : (k : Int) * (6000 * pw p') <= 4 * 4665600000000 := Int.mul_le_mul (by omega) (by omega) (by omega) (by decide)
          have k4 : ((k + 1 : Nat) : Int) * (6000 * pw p') <= 4 * 4665600000000 := Int.mul_le_mul (by omega) (by omega) (by omega) (by decide)
          simp -implicitDefEqProofs only [eR', go_sem, evL, nodes, hy, hc, decide_eq_true (show (k : Int) < (q.length : Int) by omega), wrap64 (n := (p' : Int)) (by omega) (by omega), show ((p' + 1 : Nat) : Int) - 1 = (p' : Int) by omega]
          refine ⟨by omega, by omega, by omega, fun h5 => ⟨by omega, by omega, by omega, ?_⟩, fun h5 => ?_⟩
          . have hcall := q0xc (ih c.toNat p' (by omega) hcb.2.1 hcb.2.2 (by omega))
            rw [show ((c.toNat : Nat) : Int) = c by omega] at hcall
            have hva := q12o t2 hs ht ha hb f c.toNat p' hcb.2.1 hcb.2.2
            obtain ⟨m1, m2⟩ := q0kl hyb.1 hva.1 hva.2
            have m3 : 100 * pw p' * y <= 77760000000 * 60 := Int.mul_le_mul (by omega) hyb.2 hyb.1 (by decide)
            refine q006.p hcall [] rfl Try.call180 ?_ ?_
            . simp -implicitDefEqProofs only [aR', go_sem]
            simp -implicitDefEqProofs only [eR', go_sem]
            refine hn _ (k + 1) (Weak.o _ _ [some 11] ?_ ?_) (by omega) (by omega)
            . simp -implicitDefEqProofs only [wR', Nat.reduceBEq, Nat.reduceEqDiff, ↓reduceIte, evL, nodes, q0lb h9 (by omega), wrap64 (n := y * val g s t f c.toNat a b p') (by omega) (by omega), ← hsu, wrap64 (n := valK g s t f a b p' q x.ch (k + 1)) (by omega) (by omega)]
            . exact ⟨⟨_, rfl, .refl _⟩, rfl, trivial⟩
          . have hy0 : y = 0 := by have : ¬ y > 0 := by simpa using h5
                                   omega
            rw [hy0, Int.zero_mul, Int.add_zero] at hsu
            refine hn _ (k + 1) (Weak.o _ _ [some 11] ?_ ?_) (by omega) (by omega)
            . simp -implicitDefEqProofs only [wR', Nat.reduceBEq, Nat.reduceEqDiff, ↓reduceIte, evL, nodes, q0lb h9 (by omega), hsu]
            . exact ⟨⟨_, rfl, .refl _⟩, rfl, trivial⟩
        . simp -implicitDefEqProofs only [eR', go_sem, evL, nodes, decide_eq_false (show ¬ (k : Int) < (q.length : Int) by omega)]
          refine he _ _ ?_
          simp -implicitDefEqProofs only [eR', go_sem]
          rw [hV1 h2 k (by omega)]

theorem q0l4 (g : Gm) (s t : Int × List (List Int)) (hg : q0fl g = true) : Fun Try.prog 179 [] [.t (.agg [.sh 5 (chunk q0lu g.nd), .sh 1 (g.w.map ints), .sh 1 (g.v.map ints)]), .t (.agg [.i s.1, .sh 1 (s.2.map ints)]), .t (.agg [.i t.1, .sh 1 (t.2.map ints)])] fun o r => o = [] /\ r = evO g s.2 t.2 := q0eq g s t hg
theorem q0sk {g : Gm} {s t : Int × List (List Int)} (hg : q0fl g = true) (hs : q0nw g s.2 0) (ht : q0nw g t.2 1) {i a b : Nat} (hi : i < g.nd.length) (ha : a < g.w.length) (hb : b < g.w.length) (h2 : (g.nd.getD i nd0).p ≠ 2) :
    Pure Try.prog 216 [q0ck g, q0tu s, q0tu t, .i i, .i a, .i b] (ints (chP g s.2 t.2 i a b)) := by
  obtain ⟨p1, p2, p3, p4, p5⟩ := q0fn hg
  obtain ⟨t1, t2, t3, t4⟩ := q0g0 p1
  obtain ⟨x, hx⟩ : ∃ x, g.nd[i]? = some x := ⟨_, List.getElem?_eq_getElem hi⟩
  have hxd : g.nd.getD i nd0 = x := by rw [List.getD_eq_getElem?_getD, hx]; rfl
  obtain ⟨⟨r1, r2⟩, _⟩ := q0ks (t2 _ _ hx)
  rw [hxd] at h2
  refine q0by (by simp) ?_
  have hcase : x.p = 0 ∨ x.p = 1 := by omega
  rcases hcase with h0 | h0
  . have hpd : (g.nd.getD i nd0).p = 0 := by rw [hxd]; exact h0
    have hrow := q0ny t2 (by decide) hs hi ha hpd
    have hrl := (List.getElem?_eq_some_iff.1 hrow).1
    rw [chP, if_pos hpd]
    simp -implicitDefEqProofs only [eR', go_sem, q050, q0ck, q0tu, nodes, q0ky hx, h0, show ((0 : Int) == 0) = true from rfl]
    refine ⟨by omega, by rw [q0l0]; omega, by rw [q0l0]; omega, ?_⟩
    refine q004.pure (q0ha hg hi hpd ha) [] rfl Try.call221 (fun e R' hR => ?_) (by first | trivial | simp [T.noSh, T.noShL, rat]) (fun _ => rfl) ?_
    . simp -implicitDefEqProofs only [aR', go_sem]
    simp -implicitDefEqProofs only [eR', go_sem, hrow]
    omega
  . have hpd : (g.nd.getD i nd0).p = 1 := by rw [hxd]; exact h0
    have hrow := q0ny t2 (by decide) ht hi hb hpd
    have hrl := (List.getElem?_eq_some_iff.1 hrow).1
    rw [chP, if_neg (by omega)]
    simp -implicitDefEqProofs only [eR', go_sem, q050, q0ck, q0tu, nodes, q0ky hx, h0, show ((1 : Int) == 0) = false from rfl]
    refine ⟨by omega, by rw [q0l0]; omega, by rw [q0l0]; omega, ?_⟩
    refine q004.pure (q0ha hg hi hpd hb) [] rfl Try.call221 (fun e R' hR => ?_) (by first | trivial | simp [T.noSh, T.noShL, rat]) (fun _ => rfl) ?_
    . simp -implicitDefEqProofs only [aR', go_sem]
    simp -implicitDefEqProofs only [eR', go_sem, hrow]
    omega
theorem q063 {g : Gm} {s t : Int × List (List Int)} (hg : q0fl g = true) (hs : q0nw g s.2 0) (ht : q0nw g t.2 1) {i a b : Nat} (hi : i < g.nd.length) (ha : a < g.w.length) (hb : b < g.w.length) (h2 : (g.nd.getD i nd0).p ≠ 2) :
    Pure Try.prog 216 [.agg [.sh 5 (chunk q0lu g.nd), .sh 1 (g.w.map ints), .sh 1 (g.v.map ints)], .agg [.i s.1, .sh 1 (s.2.map ints)], .agg [.i t.1, .sh 1 (t.2.map ints)], .i i, .i a, .i b] (ints (chP g s.2 t.2 i a b)) := q0sk hg hs ht hi ha hb h2
theorem q0h8 {g : Gm} (hg : q0fl g = true) (i a b : Nat) (hi : i < g.nd.length) (ha : a < g.w.length) (hb : b < g.w.length) : Pure Try.prog 215 [.agg [.sh 5 (chunk q0lu g.nd), .sh 1 (g.w.map ints), .sh 1 (g.v.map ints)], .i i, .i a, .i b] (.i (pay g i a b)) := q0se g hg i a b hi ha hb
theorem q0ue {g : Gm} {s t : Int × List (List Int)} {i a b p r : Int} (h : Pure Try.prog 183 [q0ck g, q0tu s, q0tu t, .i i, .i a, .i b, .i p] (.i r)) :
    Pure Try.prog 183 [.agg [.sh 5 (chunk q0lu g.nd), .sh 1 (g.w.map ints), .sh 1 (g.v.map ints)], .agg [.i s.1, .sh 1 (s.2.map ints)], .agg [.i t.1, .sh 1 (t.2.map ints)], .i i, .i a, .i b, .i p] (.i r) := h
theorem q0sn {g : Gm} {s t : Int × List (List Int)} (hg : q0fl g = true) (hs : q0nw g s.2 0) (ht : q0nw g t.2 1) {a b : Nat} (ha : a < g.w.length) (hb : b < g.w.length) : ∀ (f i p : Nat), g.nd.length <= i + f -> i < g.nd.length -> dep g.nd f i <= p -> p <= 5 →
    Pure Try.prog 183 [q0ck g, q0tu s, q0tu t, .i i, .i a, .i b, .i p] (.i (val g s.2 t.2 f i a b p)) := by
  obtain ⟨p1, p2, p3, p4, p5⟩ := q0fn hg
  obtain ⟨t1, t2, t3, t4⟩ := q0g0 p1
  have hpay := q0o0 t2
  intro f
  induction f with
  | zero => intro i p h1 h2; omega
  | succ f ih =>
    intro i p hf hi hdp hp5
    obtain ⟨x, hx⟩ : ∃ x, g.nd[i]? = some x := ⟨_, List.getElem?_eq_getElem hi⟩
    have hxd : g.nd.getD i nd0 = x := by rw [List.getD_eq_getElem?_getD, hx]; rfl
    have hxl := (q0ks (t2 _ _ hx)).2.2.2.2.2
    have hpw := q0oj hp5
    have hV2 : x.p = 2 -> val g s.2 t.2 (f + 1) i a b p = pay g i a b * pw p := fun h => by rw [val]; (try simp only []); rw [if_pos (by rw [hxd]; exact h)]
    have hV1 : x.p ≠ 2 -> ∀ n, x.ch.length <= n -> valK g s.2 t.2 f a b (p - 1) (chP g s.2 t.2 i a b) x.ch n = val g s.2 t.2 (f + 1) i a b p := fun h n hn => by
      have := q0xb (g := g) (s := s.2) (t := t.2) (f := f) (i := i) (a := a) (b := b) (p := p) (n := n) (by rw [hxd]; exact h) (by rw [hxd]; exact hn)
      rw [hxd] at this; exact this
    generalize val g s.2 t.2 (f + 1) i a b p = V' at hV2 hV1 ⊢
    refine q0c1 (by simp) ?_
    simp -implicitDefEqProofs only [eR', go_sem, q053, q0ck, q0tu, nodes, q0kw hx]
    refine ⟨by omega, by rw [q0l0]; omega, by rw [q0l0]; omega, ?_⟩
    refine ⟨fun h2 => ?_, fun h2 => ?_⟩
    . have h2 : x.p = 2 := by simpa using h2
      rw [hV2 h2]
      refine q006.p (q0h8 hg i a b hi ha hb) [] rfl Try.call215 ?_ ?_
      . simp -implicitDefEqProofs only [aR', go_sem]
      simp -implicitDefEqProofs only [eR', go_sem]
      refine q006.p (q0sl p (by omega)) [] rfl Try.call157 ?_ ?_
      . simp -implicitDefEqProofs only [aR', go_sem]
      simp -implicitDefEqProofs only [eR', go_sem]
      have q1 := hpay i a b
      have m1 := Int.mul_le_mul_of_nonneg_right q1.2 (show 0 <= pw p by omega)
      have m2 := Int.mul_le_mul_of_nonneg_right q1.1 (show 0 <= pw p by omega)
      rw [wrap64 (n := pay g i a b * pw p) (by omega) (by omega)]
    . have h2 : x.p ≠ 2 := by simpa using h2
      have hp2 : (g.nd.getD i nd0).p ≠ 2 := by rw [hxd]; exact h2
      obtain ⟨d1, d2⟩ := q07w (f := f) hp2
      rw [hxd] at d2
      have hch := q0kp (t2 _ _ hx)
      obtain ⟨c1, c2, c3⟩ := q061 t2 hs ht hi ha hb hp2
      rw [hxd] at c1
      obtain ⟨p', rfl⟩ : ∃ p', p = p' + 1 := ⟨p - 1, by omega⟩
      have hpw' := q0oj (show p' <= 5 by omega)
      have hcond : ∀ c ∈ x.ch, 0 <= c /\ c.toNat < g.nd.length /\ dep g.nd f c.toNat <= p' := fun c hc => by
        have h1 := hch c hc
        have h3 := d2 c hc
        omega
      refine q006.res (q063 hg hs ht hi ha hb hp2) [] rfl Try.call216 ?_ (.inl rfl) ?_
      . simp -implicitDefEqProofs only [aR', go_sem]
      simp -implicitDefEqProofs only [cR', go_sem, ints]
      rw [Nat.add_sub_cancel] at hV1
      generalize chP g s.2 t.2 i a b = q at hV1 c1 c2 c3 ⊢
      have hKA := q0xa t2 hs ht ha hb (f := f) c2 hcond
      refine SemC.loopR (σ := Nat) (fun k => St.of [(3, .t (.i i)), (4, .t (.i a)), (5, .t (.i b)), (6, .t (.i (p' + 1 : Nat))), (7, .own 7), (8, .own 8), (9, .own 9), (15, .own 15), (16, .t (ints q)), (17, .t (.i (valK g s.2 t.2 f a b p' q x.ch k))), (18, .t (.i k))] [(7, .box [nodes g.nd, rows g.w, rows g.v]), (8, .box [.i s.1, rows s.2]), (9, .box [.i t.1, rows t.2]), (15, .box [.i x.p, .i x.a, .i x.b, .i x.f, ints x.ch])]) (fun k => k <= q.length) (fun k => q.length - k) 0 (Weak.o _ _ [some 7, some 8, some 9, some 15] ?_ ?_) (by omega) fun k hk R hn hr he => ?_
      . simp -implicitDefEqProofs only [wR', Nat.reduceBEq, Nat.reduceEqDiff, ↓reduceIte, nodes, show valK g s.2 t.2 f a b p' q x.ch 0 = 0 from rfl]
      . exact ⟨⟨_, rfl, .refl _⟩, rfl, ⟨_, rfl, .refl _⟩, rfl, ⟨_, rfl, .refl _⟩, rfl, ⟨_, rfl, .refl _⟩, rfl, trivial⟩
      . rcases Nat.lt_or_ge k q.length with h9 | h9
        . obtain ⟨y, hy⟩ : ∃ y, q[k]? = some y := ⟨_, List.getElem?_eq_getElem h9⟩
          obtain ⟨c, hc⟩ : ∃ c, x.ch[k]? = some c := ⟨_, List.getElem?_eq_getElem (by omega)⟩
          have hyb := c2 y (List.mem_of_getElem? hy)
          have hcb := hcond c (List.mem_of_getElem? hc)
          have hcb1 := hch c (List.mem_of_getElem? hc)
          have hsu := q12n (g := g) (s := s.2) (t := t.2) (f := f) (a := a) (b := b) (p := p') hy hc
          have k1 := hKA k (by omega) (by omega)
          have k2 := hKA (k + 1) (by omega) (by omega)
          have k3 : (k : Int) * (6000 * pw p') <= 4 * 4665600000000 := Int.mul_le_mul (by omega) (by omega) (by omega) (by decide)
          have k4 : ((k + 1 : Nat) : Int) * (6000 * pw p') <= 4 * 4665600000000 := Int.mul_le_mul (by omega) (by omega) (by omega) (by decide)
          have hcall := q0ue (ih c.toNat p' (by omega) hcb.2.1 hcb.2.2 (by omega))
          rw [show ((c.toNat : Nat) : Int) = c by omega] at hcall
          have hva := q12o t2 hs ht ha hb f c.toNat p' hcb.2.1 hcb.2.2
          obtain ⟨m1, m2⟩ := q0kl hyb.1 hva.1 hva.2
          have m3 : 100 * pw p' * y <= 77760000000 * 60 := Int.mul_le_mul (by omega) hyb.2 hyb.1 (by decide)
          simp -implicitDefEqProofs only [eR', go_sem, nodes, hy, hc, decide_eq_true (show (k : Int) < (x.ch.length : Int) by omega), wrap64 (n := (p' : Int)) (by omega) (by omega), show ((p' + 1 : Nat) : Int) - 1 = (p' : Int) by omega]
          refine ⟨by omega, by omega, by omega, by omega, by omega, by omega, ?_⟩
          refine q004.pure hcall [] rfl Try.call183 (fun e R' hR => ?_) (by first | trivial | simp [T.noSh, T.noShL, rat]) (fun _ => rfl) ?_
          . simp -implicitDefEqProofs only [aR', go_sem]
          simp -implicitDefEqProofs only [eR', go_sem]
          refine hn _ (k + 1) (Weak.o _ _ [some 7, some 8, some 9, some 15] ?_ ?_) (by omega) (by omega)
          . simp -implicitDefEqProofs only [wR', Nat.reduceBEq, Nat.reduceEqDiff, ↓reduceIte, nodes, q0lb h9 (by omega), wrap64 (n := y * val g s.2 t.2 f c.toNat a b p') (by omega) (by omega), ← hsu, wrap64 (n := valK g s.2 t.2 f a b p' q x.ch (k + 1)) (by omega) (by omega)]
          . exact ⟨⟨_, rfl, .refl _⟩, rfl, ⟨_, rfl, .refl _⟩, rfl, ⟨_, rfl, .refl _⟩, rfl, ⟨_, rfl, .refl _⟩, rfl, trivial⟩
        . simp -implicitDefEqProofs only [eR', go_sem, nodes, decide_eq_false (show ¬ (k : Int) < (x.ch.length : Int) by omega)]
          refine he _ _ ?_
          simp -implicitDefEqProofs only [eR', go_sem]
          rw [hV1 h2 k (by omega)]

theorem q110 {g : Gm} {s t : Int × List (List Int)} (h : q0nn g s t = true) : q0fl g = true /\ q0nw g s.2 0 /\ q0nw g t.2 1 := by
  obtain ⟨h1, h2, h3, h4, h5⟩ := q0no.1 h
  rw [h2] at h4; rw [h3] at h5
  exact ⟨h1, q0nx h4, q0nx h5⟩
end
end Go.Ab

/- Games as data: counts, regrets and sums of the iterations. -/
namespace Go.Ab

/-! Lists that are made new from the left. -/
def mixL {α : Type} (new old : List α) (i : Nat) : List α := new.take i ++ old.drop i
theorem q14w {α : Type} (new old : List α) : mixL new old 0 = old := by simp [mixL]
theorem q14s {α : Type} {new old : List α} (h : new.length = old.length) : mixL new old old.length = new := by simp [mixL, ← h]
theorem q14u {α : Type} {new old : List α} (h : new.length = old.length) {i : Nat} (hi : i <= old.length) : (mixL new old i).length = old.length := by simp [mixL]; omega
theorem q14t {α : Type} {new old : List α} (h : new.length = old.length) {i : Nat} (hi : i < old.length) : (mixL new old i)[i]? = old[i]? := by
  rw [mixL, List.getElem?_append_right (by simp; omega)]
  simp [List.length_take, h, Nat.min_eq_left (Nat.le_of_lt hi)]
theorem q14v {α : Type} {new old : List α} (h : new.length = old.length) {i : Nat} {y : α} (hy : new[i]? = some y) : (mixL new old i).set i y = mixL new old (i + 1) := by
  obtain ⟨hi, rfl⟩ := List.getElem?_eq_some_iff.1 hy
  have hl : (new.take i).length = i := by rw [List.length_take]; omega
  rw [mixL, mixL, List.set_append_right _ _ (by omega), hl, Nat.sub_self, List.drop_eq_getElem_cons (show i < old.length by omega), List.set_cons_zero, List.take_add_one, hy, Option.toList_some, List.append_assoc]; rfl
def sgn (pl : Int) : Int := if pl = 0 then 1 else -1
def wAt (g : Gm) (pl : Int) (c o : Nat) : Int := if pl = 0 then (g.w.getD c []).getD o 0 else (g.w.getD o []).getD c 0
def vAt (g : Gm) (s t : List (List Int)) (pl : Int) (kid c o p : Nat) : Int := if pl = 0 then val g s t g.nd.length kid c o p else val g s t g.nd.length kid o c p
def q144 (g : Gm) (n : Nat) : Nat := (dep g.nd g.nd.length n).toNat - 1
def rchW (g : Gm) (s t : List (List Int)) (pl : Int) (n c o : Nat) : Int := sgn pl * wAt g pl c o * wayP g (otOf pl s t) (1 - pl) o n
def cntF (g : Gm) (s t : List (List Int)) (pl : Int) (n c kid o : Nat) : Int := rchW g s t pl n c o * vAt g s t pl kid c o (q144 g n)
def cntN (g : Gm) (s t : List (List Int)) (pl : Int) (n c kid m : Nat) : Int := sumI ((List.range m).map (cntF g s t pl n c kid))
def cnts (g : Gm) (s t : List (List Int)) (pl : Int) (n c : Nat) : List Int := (g.nd.getD n nd0).ch.map fun k => cntN g s t pl n c k.toNat g.w.length
theorem q148 (g : Gm) (s t : List (List Int)) (pl : Int) (n c kid m : Nat) : cntN g s t pl n c kid (m + 1) = cntN g s t pl n c kid m + cntF g s t pl n c kid m := q0u6 _ _
theorem q14b (g : Gm) (s t : List (List Int)) (pl : Int) (n c : Nat) : (cnts g s t pl n c).length = (g.nd.getD n nd0).ch.length := by simp [cnts]
theorem q14a {g : Gm} {s t : List (List Int)} {pl : Int} {n c k : Nat} {x : Int} (h : (g.nd.getD n nd0).ch[k]? = some x) : (cnts g s t pl n c)[k]? = some (cntN g s t pl n c x.toNat g.w.length) := by rw [cnts, List.getElem?_map, h]; rfl
def q14m (q C : List Int) (k : Nat) : Int := sumI ((List.zipWith (fun x y => x * y) q C).take k)
theorem q14p (q C : List Int) : q14m q C 0 = 0 := rfl
theorem q14o {q C : List Int} {k : Nat} {x y : Int} (hx : q[k]? = some x) (hy : C[k]? = some y) : q14m q C (k + 1) = q14m q C k + x * y := by
  unfold q14m
  have h : (List.zipWith (fun x y => x * y) q C)[k]? = some (x * y) := by rw [List.getElem?_zipWith, hx, hy]
  rw [List.take_add_one, h, Option.toList_some, q0u7]
def q14l (q C : List Int) : Int := q14m q C C.length
def updR (r C : List Int) (M : Int) : List Int := List.zipWith (fun x y => x + (60 * y - M)) r C
def updW (s q : List Int) (w : Int) : List Int := List.zipWith (fun x y => x + w * y) s q
theorem q15t {r C : List Int} {M : Int} {k : Nat} {x y : Int} (hx : r[k]? = some x) (hy : C[k]? = some y) : (updR r C M)[k]? = some (x + (60 * y - M)) := by rw [updR, List.getElem?_zipWith, hx, hy]
theorem q15v {s q : List Int} {w : Int} {k : Nat} {x y : Int} (hx : s[k]? = some x) (hy : q[k]? = some y) : (updW s q w)[k]? = some (x + w * y) := by rw [updW, List.getElem?_zipWith, hx, hy]
theorem q15u {r C : List Int} {M : Int} (h : r.length = C.length) : (updR r C M).length = r.length := by rw [updR, List.length_zipWith]; omega
theorem q15w {s q : List Int} {w : Int} (h : s.length = q.length) : (updW s q w).length = s.length := by rw [updW, List.length_zipWith]; omega
def setN (g : Gm) (pl : Int) (i : Nat) : Nat := (((sets g pl).getD i []).getD 0 0).toNat
def setC (g : Gm) (pl : Int) (i : Nat) : Nat := (((sets g pl).getD i []).getD 1 0).toNat
theorem q15l {g : Gm} {pl : Int} {i : Nat} (h : i < (sets g pl).length) : (sets g pl)[i]? = some [(setN g pl i : Int), (setC g pl i : Int)] /\ setN g pl i < g.nd.length /\ setC g pl i < g.w.length /\ (g.nd.getD (setN g pl i) nd0).p = pl /\ q0rh g pl i = (g.nd.getD (setN g pl i) nd0).ch.length /\ setI g pl (setN g pl i) (setC g pl i) = i := by
  obtain ⟨n, c, x, h1, h2, h3, h4, h5, h6⟩ := q0qz h
  have e1 : setN g pl i = n := by unfold setN; rw [List.getD_eq_getElem?_getD (l := sets g pl), h1]; simp
  have e2 : setC g pl i = c := by unfold setC; rw [List.getD_eq_getElem?_getD (l := sets g pl), h1]; simp
  have e3 : g.nd.getD n nd0 = x := by rw [List.getD_eq_getElem?_getD, h2]; rfl
  rw [e1, e2, e3]
  refine ⟨h1, h3, h4, h5, h6, ?_⟩
  have hg := q0rd (g := g) (pl := pl) h3 h4 (by rw [e3]; exact h5)
  obtain ⟨n', c', hn', hc', hp', he, _⟩ := q11p h
  have hg' := q0rd (g := g) (pl := pl) hn' hc' hp'
  rw [← he, h1] at hg'
  simp at hg'
  obtain ⟨a1, a2⟩ := hg'
  have a1 : n = n' := by omega
  have a2 : c = c' := by omega
  rw [a1, a2]; exact he.symm
def rowR (g : Gm) (s t : List (List Int)) (pl : Int) (R : List (List Int)) (i : Nat) : List Int :=
  updR (R.getD i []) (cnts g s t pl (setN g pl i) (setC g pl i)) (q14l ((q10l pl s t).getD i []) (cnts g s t pl (setN g pl i) (setC g pl i)))
def rowS (g : Gm) (s t : List (List Int)) (pl : Int) (S : List (List Int)) (i : Nat) : List Int :=
  updW (S.getD i []) ((q10l pl s t).getD i []) (wayP g (q10l pl s t) pl (setC g pl i) (setN g pl i))
def q14y (g : Gm) (s t : List (List Int)) (pl : Int) (R : List (List Int)) : List (List Int) := (List.range (sets g pl).length).map (rowR g s t pl R)
def q14z (g : Gm) (s t : List (List Int)) (pl : Int) (S : List (List Int)) : List (List Int) := (List.range (sets g pl).length).map (rowS g s t pl S)
def posL (l : List Int) : List Int := l.map fun x => max 0 x
def rowP (l : List Int) : List Int := ham (hvd 34 (posL l))
def stM (m : List (List Int)) : List (List Int) := m.map rowP
structure RS where
  r0 : List (List Int)
  r1 : List (List Int)
  s0 : List (List Int)
  s1 : List (List Int)
def q15q (g : Gm) (x : RS) : RS := ⟨q14y g (stM x.r0) (stM x.r1) 0 x.r0, q14y g (stM x.r0) (stM x.r1) 1 x.r1, q14z g (stM x.r0) (stM x.r1) 0 x.s0, q14z g (stM x.r0) (stM x.r1) 1 x.s1⟩
def q15z (g : Gm) (pl : Int) : List (List Int) := (List.range (sets g pl).length).map fun i => List.replicate (q0rh g pl i) 0
def q15i (g : Gm) : Nat -> RS
  | 0 => ⟨q15z g 0, q15z g 1, q15z g 0, q15z g 1⟩
  | n + 1 => q15q g (q15i g n)
def okM (g : Gm) (pl : Int) (B : Int) (m : List (List Int)) : Prop := m.length = (sets g pl).length /\ ∀ i r, m[i]? = some r -> r.length = q0rh g pl i /\ ∀ x ∈ r, -B <= x /\ x <= B
theorem q150 {g : Gm} {pl B : Int} {m : List (List Int)} (h : okM g pl B m) {i : Nat} (hi : i < (sets g pl).length) : ∃ r, m[i]? = some r /\ m.getD i [] = r /\ r.length = q0rh g pl i /\ ∀ x ∈ r, -B <= x /\ x <= B := by
  have hx : m[i]? = some (m[i]'(by rw [h.1]; exact hi)) := List.getElem?_eq_getElem _
  exact ⟨_, hx, by rw [List.getD_eq_getElem?_getD, hx]; rfl, h.2 i _ hx⟩
theorem q151 {g : Gm} {pl B : Int} {F : Nat -> List Int} (h : ∀ i, i < (sets g pl).length -> (F i).length = q0rh g pl i /\ ∀ x ∈ F i, -B <= x /\ x <= B) : okM g pl B ((List.range (sets g pl).length).map F) := by
  refine ⟨by simp, fun i r hr => ?_⟩
  have hi : i < (sets g pl).length := by have := (List.getElem?_eq_some_iff.1 hr).1; simpa using this
  rw [List.getElem?_map, List.getElem?_range hi, Option.map_some, Option.some.injEq] at hr
  rw [← hr]; exact h i hi
theorem q160 (g : Gm) (pl : Int) : okM g pl 0 (q15z g pl) := q151 fun i _ => ⟨by simp, fun x hx => by rw [List.eq_of_mem_replicate hx]; omega⟩

/-! Bounds. -/
theorem q156 (a b : Nat) : pw (a + b) = pw a * pw b := by rw [pw, pw, pw, Int.pow_add]
theorem q145 {g : Gm} (hg : q0fl g = true) {n : Nat} (hn : n < g.nd.length) (h2 : (g.nd.getD n nd0).p ≠ 2) : (wayL g.nd n).length + q144 g n <= 4 /\ dep g.nd g.nd.length n = (q144 g n : Int) + 1 /\ ∀ k, k ∈ (g.nd.getD n nd0).ch -> 0 <= k /\ k.toNat < g.nd.length /\ dep g.nd g.nd.length k.toNat <= q144 g n := by
  obtain ⟨p1, p2, p3, p4, p5⟩ := q0fn hg
  obtain ⟨t1, t2, t3, t4⟩ := q0g0 p1
  have hx : g.nd[n]? = some (g.nd.getD n nd0) := by rw [List.getD_eq_getElem?_getD, List.getElem?_eq_getElem hn]; rfl
  have hch := q0kp (t2 n _ hx)
  obtain ⟨F, hF⟩ : ∃ F, g.nd.length = F + 1 := ⟨g.nd.length - 1, by omega⟩
  obtain ⟨d1, d2⟩ := q07w (l := g.nd) (f := F) (i := n) h2
  rw [← hF] at d1 d2
  have hw := q12u t2 t3 n n (Nat.le_refl _) hn
  have hb : dep g.nd g.nd.length n = (q144 g n : Int) + 1 := by unfold q144; omega
  refine ⟨by omega, hb, fun k hk => ?_⟩
  have h1 := hch k hk
  have h3 := d2 k hk
  rw [q07y t2 F g.nd.length k.toNat (by omega) (by omega)] at h3
  exact ⟨by omega, by omega, by omega⟩
theorem q15y {g : Gm} (hg : q0fl g = true) (pl : Int) (c o : Nat) : 0 <= wAt g pl c o /\ wAt g pl c o <= 9 := by
  obtain ⟨_, _, h3, _⟩ := q0fo hg
  unfold wAt
  split
  . exact q0xh h3 c o
  . exact q0xh h3 o c
theorem q159 {g : Gm} {s t : List (List Int)} {pl : Int} {n c o : Nat} (h : wAt g pl c o = 0) : rchW g s t pl n c o = 0 := by rw [rchW, h, Int.mul_zero, Int.zero_mul]
theorem q153 {g : Gm} {s t : List (List Int)} (hs : q0nw g s 0) (ht : q0nw g t 1) {pl : Int} (hpl : pl = 0 ∨ pl = 1) : q0nw g (q10l pl s t) pl /\ q0nw g (otOf pl s t) (1 - pl) := by
  rcases hpl with rfl | rfl
  . exact ⟨hs, ht⟩
  . exact ⟨ht, hs⟩
theorem q158 {g : Gm} (hg : q0fl g = true) {s t : List (List Int)} (hs : q0nw g s 0) (ht : q0nw g t 1) {pl : Int} (hpl : pl = 0 ∨ pl = 1) {n c o : Nat} (hn : n < g.nd.length) (ho : o < g.w.length) :
    -(9 * pw (wayL g.nd n).length) <= rchW g s t pl n c o /\ rchW g s t pl n c o <= 9 * pw (wayL g.nd n).length := by
  obtain ⟨p1, p2, p3, p4, p5⟩ := q0fn hg
  obtain ⟨t1, t2, t3, t4⟩ := q0g0 p1
  obtain ⟨w1, w2⟩ := q15y hg pl c o
  obtain ⟨b1, b2⟩ := q12q (c := o) t2 t3 (q153 hs ht hpl).2 ho n n (Nat.le_refl _) hn
  have hm : wAt g pl c o * wayP g (otOf pl s t) (1 - pl) o n <= 9 * pw (wayL g.nd n).length := Int.mul_le_mul w2 b2 b1 (by decide)
  have hm0 := Int.mul_nonneg w1 b1
  unfold rchW sgn
  split
  . rw [Int.one_mul]; omega
  . rw [Int.neg_one_mul, Int.neg_mul]; omega
theorem q141 {x y a b : Int} (hx : -a <= x /\ x <= a) (hy : -b <= y /\ y <= b) : -(a * b) <= x * y /\ x * y <= a * b := by
  have hb : 0 <= b := by omega
  rcases Int.le_total 0 x with h | h
  . obtain ⟨m1, m2⟩ := q0kl h hy.1 hy.2
    have m3 : b * x <= b * a := Int.mul_le_mul_of_nonneg_left hx.2 hb
    rw [Int.mul_comm a b]; omega
  . obtain ⟨m1, m2⟩ := q0kl (x := -x) (by omega) hy.1 hy.2
    have m3 : b * -x <= b * a := Int.mul_le_mul_of_nonneg_left (by omega) hb
    rw [Int.neg_mul] at m1 m2
    rw [Int.mul_comm a b]; omega
theorem q15x {g : Gm} (hg : q0fl g = true) {s t : List (List Int)} (hs : q0nw g s 0) (ht : q0nw g t 1) {pl : Int} {k c o p : Nat} (hc : c < g.w.length) (ho : o < g.w.length) (hk : k < g.nd.length) (hd : dep g.nd g.nd.length k <= p) : -(100 * pw p) <= vAt g s t pl k c o p /\ vAt g s t pl k c o p <= 100 * pw p := by
  obtain ⟨p1, p2, p3, p4, p5⟩ := q0fn hg
  obtain ⟨t1, t2, t3, t4⟩ := q0g0 p1
  unfold vAt
  split
  . exact q12o t2 hs ht hc ho _ _ _ hk hd
  . exact q12o t2 hs ht ho hc _ _ _ hk hd
theorem q157 {p : Nat} (h : p <= 4) : 1 <= pw p /\ pw p <= 12960000 := by
  have : p = 0 ∨ p = 1 ∨ p = 2 ∨ p = 3 ∨ p = 4 := by omega
  rcases this with rfl | rfl | rfl | rfl | rfl <;> decide
theorem q146 {g : Gm} (hg : q0fl g = true) {s t : List (List Int)} (hs : q0nw g s 0) (ht : q0nw g t 1) {pl : Int} (hpl : pl = 0 ∨ pl = 1) {n c o : Nat} (hn : n < g.nd.length) (h2 : (g.nd.getD n nd0).p ≠ 2) (hc : c < g.w.length) (ho : o < g.w.length) {k : Int} (hk : k ∈ (g.nd.getD n nd0).ch) :
    -11664000000 <= cntF g s t pl n c k.toNat o /\ cntF g s t pl n c k.toNat o <= 11664000000 := by
  obtain ⟨e1, e2, e3⟩ := q145 hg hn h2
  obtain ⟨k1, k2, k3⟩ := e3 k hk
  have h := q141 (q158 (c := c) hg hs ht hpl hn ho) (q15x (pl := pl) hg hs ht hc ho k2 k3)
  have hp : 9 * pw (wayL g.nd n).length * (100 * pw (q144 g n)) = 900 * pw ((wayL g.nd n).length + q144 g n) := by
    rw [q156]; grind
  have hq := q157 e1
  rw [hp] at h
  unfold cntF; omega
theorem q147 {g : Gm} (hg : q0fl g = true) {s t : List (List Int)} (hs : q0nw g s 0) (ht : q0nw g t 1) {pl : Int} (hpl : pl = 0 ∨ pl = 1) {n c : Nat} (hn : n < g.nd.length) (h2 : (g.nd.getD n nd0).p ≠ 2) (hc : c < g.w.length) {k : Int} (hk : k ∈ (g.nd.getD n nd0).ch) {m : Nat} (hm : m <= g.w.length) :
    -69984000000 <= cntN g s t pl n c k.toNat m /\ cntN g s t pl n c k.toNat m <= 69984000000 := by
  obtain ⟨p1, p2, p3, p4, p5⟩ := q0fn hg
  have h := q0u5 (G := cntF g s t pl n c k.toNat) (n := m) (c := 11664000000) fun o ho => q146 hg hs ht hpl hn h2 hc (by omega) hk
  unfold cntN; omega
theorem q149 {g : Gm} (hg : q0fl g = true) {s t : List (List Int)} (hs : q0nw g s 0) (ht : q0nw g t 1) {pl : Int} (hpl : pl = 0 ∨ pl = 1) {n c : Nat} (hn : n < g.nd.length) (h2 : (g.nd.getD n nd0).p ≠ 2) (hc : c < g.w.length) : ∀ y ∈ cnts g s t pl n c, -69984000000 <= y /\ y <= 69984000000 := by
  intro y hy
  obtain ⟨k, hk, rfl⟩ := List.mem_map.1 hy
  exact q147 hg hs ht hpl hn h2 hc hk (Nat.le_refl _)
theorem q14n {q C : List Int} (hq : ∀ x ∈ q, 0 <= x /\ x <= 60) (hC : ∀ y ∈ C, -69984000000 <= y /\ y <= 69984000000) : ∀ k, -(k * 4199040000000) <= q14m q C k /\ q14m q C k <= k * 4199040000000
  | 0 => by simp [q14m, sumI]
  | k + 1 => by
    have ih := q14n hq hC k
    cases hx : q[k]? with
    | none =>
      have : q14m q C (k + 1) = q14m q C k := by
        unfold q14m
        have h : (List.zipWith (fun x y => x * y) q C)[k]? = none := by rw [List.getElem?_zipWith, hx]
        rw [List.take_add_one, h]; simp
      rw [this]; omega
    | some x =>
      cases hy : C[k]? with
      | none =>
        have : q14m q C (k + 1) = q14m q C k := by
          unfold q14m
          have h : (List.zipWith (fun x y => x * y) q C)[k]? = none := by rw [List.getElem?_zipWith, hx, hy]
          rw [List.take_add_one, h]; simp
        rw [this]; omega
      | some y =>
        rw [q14o hx hy]
        have h1 := hq x (List.mem_of_getElem? hx)
        have h2 := hC y (List.mem_of_getElem? hy)
        obtain ⟨m1, m2⟩ := q0kl h1.1 h2.1 h2.2
        omega
end Go.Ab

/- Contracts: where a number stands first; products along a way. -/
namespace Go.Ab
open Go.Proofs
theorem q0rr (r : List Int) (hr : r.length <= 1000000) (x : Int) (hx : x ∈ r) : Pure Try.prog 117 [ints r, .i x] (.i (ixOf x r : Nat)) := by
  refine q0be (by simp) ?_
  simp -implicitDefEqProofs only [eR', go_sem, q04g]
  refine SemC.loopR (σ := Nat) (fun i => St.of [(0, .t (ints r)), (1, .t (.i x)), (7, .t (.i r.length)), (8, .t (.i i))] []) (fun i => i <= ixOf x r) (fun i => r.length - i) 0 (Weak.o _ [] [] ?_ trivial) (by omega) fun i hi R hn hr' he => ?_
  . simp -implicitDefEqProofs only [wR', Nat.reduceBEq, Nat.reduceEqDiff, ↓reduceIte]
  . simp -implicitDefEqProofs only [eR', go_sem]
    have hg := q109 hx
    have hml := (List.getElem?_eq_some_iff.1 hg).1
    refine ⟨fun h => ⟨by omega, by omega, by omega, fun y hy => ⟨fun hc => hr' _ ?_, fun hc => ?_⟩⟩, fun h => by omega⟩
    . have hc : x = y := by simpa using hc
      have e : i = ixOf x r := by
        have := q10a (hc ▸ hy : r[i]? = some x)
        omega
      simp -implicitDefEqProofs only [eR', go_sem]
      rw [← e]
    . have hne : i ≠ ixOf x r := by
        intro e
        rw [← e, hy] at hg
        injection hg with hg
        simp [hg] at hc
      refine hn _ (i + 1) (Weak.o _ [] [] ?_ trivial) (by omega) (by omega)
      simp -implicitDefEqProofs only [wR', Nat.reduceBEq, Nat.reduceEqDiff, ↓reduceIte, q0lb (by omega : i < r.length) (by omega)]
section
attribute [-go_sem] q0i5 q0id fldC lenC idxC q0ip q0lp
theorem q0sc {l : List Nd} (h : q0l2 l) (ho : q10t l) (hl : l.length <= 60) : ∀ (f n : Nat), n <= f -> n < l.length -> Fun Try.prog 225 [] [.t (.agg [.sh 5 (chunk q0lu l)]), .t (.i n)] fun o r => o = [] /\ r = intsO (wayL l n) := by
  intro f
  induction f with
  | zero =>
    intro n h1 hn
    obtain rfl : n = 0 := by omega
    refine q0br (by simp) ?_
    simp -implicitDefEqProofs only [eR', go_sem, q04t, nodes, show (((0 : Nat) : Int) == 0) = true from rfl]
    rfl
  | succ f ih =>
    intro n h1 hn
    by_cases hz : n = 0
    . subst hz
      refine q0br (by simp) ?_
      simp -implicitDefEqProofs only [eR', go_sem, q04t, nodes, show (((0 : Nat) : Int) == 0) = true from rfl]
      rfl
    . have hu := q12k h ho (by omega) hn
      have hpg := q118 h ho (by omega) hn
      have hku := q10e h ho (j := n) (by omega) hn
      have hwu := q12v h ho (j := n) (by omega) hn
      have hpl := (List.getElem?_eq_some_iff.1 hpg).1
      refine q0br (by simp) ?_
      simp -implicitDefEqProofs only [eR', go_sem, q04t, nodes, show ((n : Int) == 0) = false by simp; omega]
      refine SemC.loopR (σ := Nat) (fun i => St.of [(1, .t (.i n)), (2, .own 2), (5, .t (.i i))] [(2, .box [nodes l])]) (fun i => i <= upN l n) (fun i => n - i) 0 (Weak.o _ _ [some 2] ?_ ?_) (by omega) fun i hi R hn1 hr he => ?_
      . simp -implicitDefEqProofs only [wR', Nat.reduceBEq, Nat.reduceEqDiff, ↓reduceIte, nodes]
      . exact ⟨⟨_, rfl, .refl _⟩, rfl, trivial⟩
      obtain ⟨x, hx⟩ : ∃ x, l[i]? = some x := ⟨_, List.getElem?_eq_getElem (by omega)⟩
      have hxd : l.getD i nd0 = x := by rw [List.getD_eq_getElem?_getD, hx]; rfl
      have hxl := (q0ks (h _ _ hx)).2.2.2.2.2
      simp -implicitDefEqProofs only [eR', go_sem, nodes, decide_eq_true (show (i : Int) < (n : Int) by omega)]
      refine SemC.loopR (σ := Nat) (fun k => St.of [(1, .t (.i n)), (2, .own 2), (5, .t (.i i)), (6, .t (.i k))] [(2, .box [nodes l])]) (fun k => k <= x.ch.length /\ (i = upN l n -> k <= plc l n)) (fun k => x.ch.length - k) 0 (Weak.o _ _ [some 2] ?_ ?_) ⟨by omega, fun _ => by omega⟩ fun k hk R2 hn2 hr2 he2 => ?_
      . simp -implicitDefEqProofs only [wR', Nat.reduceBEq, Nat.reduceEqDiff, ↓reduceIte, nodes]
      . exact ⟨⟨_, rfl, .refl _⟩, rfl, trivial⟩
      rcases Nat.lt_or_ge k x.ch.length with h9 | h9
      . obtain ⟨y, hy⟩ : ∃ y, x.ch[k]? = some y := ⟨_, List.getElem?_eq_getElem h9⟩
        by_cases hyn : y = n
        . have hki : q107 l i n := q10c h (by omega) (by rw [hxd]; exact hyn ▸ List.mem_of_getElem? hy)
          have hiu : i = upN l n := (q12j h ho hki).symm
          have hkp : k = plc l n := by
            have a := hk.2 hiu
            have b : plc l n <= k := q10a (by rw [← hiu, hxd, hy, hyn])
            omega
          have hp := ih i (by omega) (by omega)
          simp only [intsO] at hp
          simp -implicitDefEqProofs only [eR', go_sem, nodes, q0kz hx, hy, decide_eq_true (show (k : Int) < (x.ch.length : Int) by omega), show (y == (n : Int)) = true by simp [hyn]]
          repeat (first | refine ⟨by omega, ?_⟩ | refine ⟨by rw [q0l0]; omega, ?_⟩)
          have hwd := q12u h ho i i (Nat.le_refl _) (by omega)
          have hd0 := (q07x (l := l) l.length 0).2
          have hdi := (q07x (l := l) l.length i).1
          refine q006.res hp [] rfl Try.call225 ?_ (.inl rfl) ?_
          . simp -implicitDefEqProofs only [aR', go_sem]
          simp -implicitDefEqProofs only [cR', go_sem]
          refine ⟨by omega, hr2 _ (hr _ ?_)⟩
          simp -implicitDefEqProofs only [eR', go_sem]
          rw [hwu, ← hiu, ← hkp, intsO, List.map_append]
          rfl
        . simp -implicitDefEqProofs only [eR', go_sem, nodes, q0kz hx, hy, decide_eq_true (show (k : Int) < (x.ch.length : Int) by omega), show (y == (n : Int)) = false by simp [hyn]]
          repeat (first | refine ⟨by omega, ?_⟩ | refine ⟨by rw [q0l0]; omega, ?_⟩)
          refine hn2 _ (k + 1) (Weak.o _ _ [some 2] ?_ ?_) ⟨by omega, fun e => ?_⟩ (by omega)
          . simp -implicitDefEqProofs only [wR', Nat.reduceBEq, Nat.reduceEqDiff, ↓reduceIte, nodes, q0lb h9 (by omega)]
          . exact ⟨⟨_, rfl, .refl _⟩, rfl, trivial⟩
          . have a := hk.2 e
            rcases Nat.lt_or_ge k (plc l n) with b | b
            . omega
            . have : k = plc l n := by omega
              rw [← e, hxd, ← this, hy] at hpg
              injection hpg with hpg
              exact absurd hpg hyn
      . simp -implicitDefEqProofs only [eR', go_sem, nodes, q0kz hx, decide_eq_false (show ¬ (k : Int) < (x.ch.length : Int) by omega)]
        repeat (first | refine ⟨by omega, ?_⟩ | refine ⟨by rw [q0l0]; omega, ?_⟩)
        refine he2 _ _ ?_
        simp -implicitDefEqProofs only [eR', go_sem]
        have hne : i ≠ upN l n := fun e => by
          have a := hk.2 e
          rw [← e, hxd] at hpl
          omega
        refine hn1 _ (i + 1) (Weak.o _ _ [some 2] ?_ ?_) (by omega) (by omega)
        . simp -implicitDefEqProofs only [wR', Nat.reduceBEq, Nat.reduceEqDiff, ↓reduceIte, nodes, q0lb (show i < l.length by omega) (by omega)]
        . exact ⟨⟨_, rfl, .refl _⟩, rfl, trivial⟩
theorem q0sy {g : Gm} (hg : q0fl g = true) {S : List (List Int)} {pl : Int} (hpl : pl = 0 ∨ pl = 1) (hS : q0nw g S pl) {c n : Nat} (hc : c < g.w.length) (hn : n < g.nd.length) : Pure Try.prog 209 [.agg [.sh 5 (chunk q0lu g.nd), .sh 1 (g.w.map ints), .sh 1 (g.v.map ints)], .agg [.i pl, .sh 1 (S.map ints)], .i n, .i c] (.i (wayP g S pl c n)) := by
  obtain ⟨p1, p2, p3, p4, p5⟩ := q0fn hg
  obtain ⟨t1, t2, t3, t4⟩ := q0g0 p1
  obtain ⟨a1, a2, a3, a4⟩ := q0y3 t2 t3 n n (Nat.le_refl _) hn
  have hwd := q12u t2 t3 n n (Nat.le_refl _) hn
  have hdn := (q07x (l := g.nd) g.nd.length n).1
  refine q0cb (by simp) ?_
  simp -implicitDefEqProofs only [eR', go_sem, q05d]
  have hp := q0sc t2 t3 t1.2 n n (Nat.le_refl _) hn
  simp only [intsO] at hp
  refine q006.res hp [] rfl Try.call225 ?_ (.inl rfl) ?_
  . simp -implicitDefEqProofs only [aR', go_sem]
  simp -implicitDefEqProofs only [cR', go_sem]
  refine SemC.loopR (σ := Nat × Nat) (fun s => St.of [(3, .t (.i c)), (4, .own 4), (5, .own 5), (9, .own 16), (10, .t (.i s.2)), (11, .t (.i (wayP g S pl c s.2))), (12, .t (.i s.1))] [(4, .box [nodes g.nd, rows g.w, rows g.v]), (5, .box [.i pl, rows S]), (16, intsO (wayL g.nd n))]) (fun s => s.1 <= (wayL g.nd n).length /\ (ancL g.nd n)[s.1]? = some s.2 /\ s.2 < g.nd.length) (fun s => (wayL g.nd n).length - s.1) (0, 0) (Weak.o _ _ [some 4, some 5, some 16] ?_ ?_) ⟨by omega, a2, by omega⟩ fun s hI R hn1 hr he => ?_
  . simp -implicitDefEqProofs only [wR', Nat.reduceBEq, Nat.reduceEqDiff, ↓reduceIte, nodes, q12s]
  . exact ⟨⟨_, rfl, .refl _⟩, rfl, ⟨_, rfl, .refl _⟩, rfl, ⟨_, rfl, .refl _⟩, rfl, trivial⟩
  obtain ⟨i, u⟩ := s
  obtain ⟨hi, hau, hul⟩ := hI
  (try simp only [] at hi hau hul)
  (try simp only [])
  rcases Nat.lt_or_ge i (wayL g.nd n).length with h9 | h9
  . obtain ⟨m, m1, m2, m3, m4, m5⟩ := a4 i h9
    have hum : u = upN g.nd m := by rw [hau] at m4; exact Option.some.inj m4
    obtain ⟨x, hx⟩ : ∃ x, g.nd[u]? = some x := ⟨_, List.getElem?_eq_getElem hul⟩
    have hxd : g.nd.getD u nd0 = x := by rw [List.getD_eq_getElem?_getD, hx]; rfl
    have hku := q10e t2 t3 m2 m3
    have hpg := q118 t2 t3 m2 m3
    rw [← hum, hxd] at hpg
    have hwp := q12r (S := S) (pl := pl) (c := c) t2 t3 m2 m3
    rw [← hum, hxd] at hwp
    obtain ⟨b1, b2⟩ := q12q t2 t3 hS hc m m (Nat.le_refl _) m3
    have hwm := q12u t2 t3 m m (Nat.le_refl _) m3
    have hdm := (q07x (l := g.nd) g.nd.length m).1
    have hpw := q0oj (p := (wayL g.nd m).length) (by omega)
    by_cases hxp : x.p = pl
    . have hpd : (g.nd.getD u nd0).p = pl := by rw [hxd]; exact hxp
      have hrow := q0ny t2 (by omega) hS hul hc hpd
      have hrl := (hS u c hul hc hpd).1
      have hrl2 := (List.getElem?_eq_some_iff.1 hrow).1
      rw [hxd] at hrl
      have hpl1 := (List.getElem?_eq_some_iff.1 hpg).1
      obtain ⟨y, hy⟩ : ∃ y, (partsOf g S pl u c)[plc g.nd m]? = some y := ⟨_, List.getElem?_eq_getElem (by omega)⟩
      rw [if_pos hxp, List.getD_eq_getElem?_getD, hy, Option.getD_some] at hwp
      simp -implicitDefEqProofs only [eR', go_sem, nodes, intsO, q0ky hx, m5, decide_eq_true (show (i : Int) < ((wayL g.nd n).length : Int) by omega), show (x.p == pl) = true by simp [hxp]]
      repeat (first | refine ⟨by omega, ?_⟩ | refine ⟨by rw [q0l0]; omega, ?_⟩)
      refine q004.pure (q0ha hg hul hpd hc) [] rfl Try.call221 (fun e R' hR => ?_) (by first | trivial | simp [T.noSh, T.noShL, rat]) (fun _ => rfl) ?_
      . simp -implicitDefEqProofs only [aR', go_sem]
      simp -implicitDefEqProofs only [eR', go_sem, nodes, intsO, hrow, m5, hy, q0kz hx, hpg]
      repeat (first | refine ⟨by omega, ?_⟩ | refine ⟨by rw [q0l0]; omega, ?_⟩)
      refine hn1 _ (i + 1, m) (Weak.o _ _ [some 4, some 5, some 16] ?_ ?_) ⟨by show i + 1 <= _; omega, m1, m3⟩ (by show _ - (i + 1) < _ - i; omega)
      . simp -implicitDefEqProofs only [wR', Nat.reduceBEq, Nat.reduceEqDiff, ↓reduceIte, nodes, q0lb h9 (by omega), ← hwp, wrap64 (n := wayP g S pl c m) (by omega) (by omega)]
      . exact ⟨⟨_, rfl, .refl _⟩, rfl, ⟨_, rfl, .refl _⟩, rfl, ⟨_, rfl, .refl _⟩, rfl, trivial⟩
    . rw [if_neg hxp, Int.mul_one] at hwp
      have hpl1 := (List.getElem?_eq_some_iff.1 hpg).1
      simp -implicitDefEqProofs only [eR', go_sem, nodes, intsO, q0ky hx, q0kz hx, hpg, m5, decide_eq_true (show (i : Int) < ((wayL g.nd n).length : Int) by omega), show (x.p == pl) = false by simp [hxp]]
      repeat (first | refine ⟨by omega, ?_⟩ | refine ⟨by rw [q0l0]; omega, ?_⟩)
      refine hn1 _ (i + 1, m) (Weak.o _ _ [some 4, some 5, some 16] ?_ ?_) ⟨by show i + 1 <= _; omega, m1, m3⟩ (by show _ - (i + 1) < _ - i; omega)
      . simp -implicitDefEqProofs only [wR', Nat.reduceBEq, Nat.reduceEqDiff, ↓reduceIte, nodes, q0lb h9 (by omega), hwp]
      . exact ⟨⟨_, rfl, .refl _⟩, rfl, ⟨_, rfl, .refl _⟩, rfl, ⟨_, rfl, .refl _⟩, rfl, trivial⟩
  . have hil : i = (wayL g.nd n).length := by omega
    have hun : u = n := by rw [hil, a3] at hau; exact (Option.some.inj hau).symm
    simp -implicitDefEqProofs only [eR', go_sem, nodes, intsO, decide_eq_false (show ¬ (i : Int) < ((wayL g.nd n).length : Int) by omega)]
    refine he _ _ ?_
    simp -implicitDefEqProofs only [eR', go_sem]
    rw [hun]
theorem q0f8 {g : Gm} {s t : List (List Int)} (hg : q0fl g = true) (hs : q0nw g s 0) (ht : q0nw g t 1) {pl : Int} (hpl : pl = 0 ∨ pl = 1) {n a b : Nat} (hn : n < g.nd.length) (ha : a < g.w.length) (hb : b < g.w.length) :
    Pure Try.prog 226 [.pin [.sh 5 (chunk q0lu g.nd), .sh 1 (g.w.map ints), .sh 1 (g.v.map ints), .sh 1 ((ownL g 0).map T.i), .sh 1 ((ownL g 1).map T.i), .sh 1 (s.map ints), .sh 1 (t.map ints), .sh 1 ((parN g.nd g.nd.length).map T.i)] 0, .i n, .i pl, .i a, .i b] (.i (wayP g (q10l pl s t) pl (if pl = 0 then a else b) n)) := by
  obtain ⟨p1, p2, p3, p4, p5⟩ := q0fn hg
  obtain ⟨t1, t2, t3, t4⟩ := q0g0 p1
  have hm := (q153 hs ht hpl).1
  have hcc : (if pl = 0 then a else b) < g.w.length := by split <;> assumption
  have hrow : ∀ u, (g.nd.getD u nd0).p = pl -> chP g s t u a b = partsOf g (q10l pl s t) pl u (if pl = 0 then a else b) := fun u hu => by
    unfold chP q10l
    rcases hpl with rfl | rfl
    . rw [if_pos hu, if_pos rfl, if_pos rfl]
    . rw [if_neg (by omega), if_neg (by omega), if_neg (by omega)]
  generalize (if pl = 0 then a else b) = c at hcc hrow ⊢
  generalize hS : q10l pl s t = S at hm hrow ⊢
  have hwn := q12u t2 t3 n n (Nat.le_refl _) hn
  have hdn := (q07x (l := g.nd) g.nd.length n).1
  refine q0a2 (by simp) ?_
  simp -implicitDefEqProofs only [eR', go_sem, q034]
  refine SemC.loopR (σ := Nat × Int) (fun q => St.of [(0, .t (.pin (evL g s t) 0)), (1, .t (.i q.1)), (2, .t (.i pl)), (3, .t (.i a)), (4, .t (.i b)), (11, .t (.i q.2))] []) (fun q => q.1 < g.nd.length /\ q.2 * wayP g S pl c q.1 = wayP g S pl c n /\ ∃ d, (wayL g.nd q.1).length + d <= (wayL g.nd n).length /\ 0 <= q.2 /\ q.2 <= pw d) (fun q => q.1) (n, 1) (Weak.o _ [] [] ?_ trivial) ⟨hn, by show (1 : Int) * _ = _; rw [Int.one_mul], 0, by show (wayL g.nd n).length + 0 <= _; omega, by show (0 : Int) <= 1; decide, by show (1 : Int) <= pw 0; decide⟩ fun q hI R hn1 hr he => ?_
  . simp -implicitDefEqProofs only [wR', Nat.reduceBEq, Nat.reduceEqDiff, ↓reduceIte, evL, nodes]
  obtain ⟨j, z⟩ := q
  obtain ⟨hj, hz, d, hd, z0, z1⟩ := hI
  (try simp only [] at hj hz hd z0 z1)
  (try simp only [])
  by_cases hj0 : j = 0
  . subst hj0
    rw [q12s, Int.mul_one] at hz
    simp -implicitDefEqProofs only [eR', go_sem, decide_eq_false (show ¬ ((0 : Nat) : Int) > 0 by omega)]
    refine he _ _ ?_
    simp -implicitDefEqProofs only [eR', go_sem]
    rw [hz]
  . have hku := q10e t2 t3 (j := j) (by omega) hj
    have huj := q12k t2 t3 (j := j) (by omega) hj
    have hup := q113 t2 t3 (j := j) (by omega) hj
    have hpg := q118 t2 t3 (j := j) (by omega) hj
    have hwp := q12r (S := S) (pl := pl) (c := c) t2 t3 (j := j) (by omega) hj
    have hwu := q12v t2 t3 (j := j) (by omega) hj
    have hpl2 := q112 g.nd g.nd.length
    rw [hwu, List.length_append, List.length_cons, List.length_nil] at hd
    have hplc : plc g.nd j = ixOf (j : Int) (g.nd.getD (upN g.nd j) nd0).ch := rfl
    generalize upN g.nd j = u at hku huj hup hpg hwp hwu hd hplc
    obtain ⟨x, hx⟩ : ∃ x, g.nd[u]? = some x := ⟨_, List.getElem?_eq_getElem hku.1⟩
    have hxd : g.nd.getD u nd0 = x := by rw [List.getD_eq_getElem?_getD, hx]; rfl
    have hxl := (q0ks (t2 _ _ hx)).2.2.2.2.2
    rw [hxd] at hpg hwp hplc
    have hpl1 := (List.getElem?_eq_some_iff.1 hpg).1
    by_cases hxp : x.p = pl
    . have hpd : (g.nd.getD u nd0).p = pl := by rw [hxd]; exact hxp
      have hc2 := hrow u hpd
      have hb2 := q114 hm hku.1 hcc hpd (plc g.nd j)
      have hrl := (hm u c hku.1 hcc hpd).1
      rw [hxd] at hrl
      obtain ⟨y, hy⟩ : ∃ y, (partsOf g S pl u c)[plc g.nd j]? = some y := ⟨_, List.getElem?_eq_getElem (by omega)⟩
      rw [if_pos hxp, List.getD_eq_getElem?_getD, hy, Option.getD_some] at hwp
      rw [List.getD_eq_getElem?_getD, hy, Option.getD_some] at hb2
      have hmem : (j : Int) ∈ x.ch := List.mem_of_getElem? hpg
      have hix := q0rr x.ch (by omega) (j : Int) hmem
      have zb : z * y <= pw d * 60 := Int.mul_le_mul z1 hb2.2 hb2.1 (by have := q0ok d; omega)
      have zc := Int.mul_nonneg z0 hb2.1
      have hpw := q0oj (p := d + 1) (by omega)
      rw [q0ol] at hpw
      have hpa := q0nv hg hs ht (i := u) (a := a) (b := b) hku.1 ha hb (by omega)
      rw [hc2] at hpa
      simp -implicitDefEqProofs only [eR', go_sem, evL, nodes, hup, q0ky hx, hpl2, decide_eq_true (show (j : Int) > 0 by omega), show (x.p == pl) = true by simp [hxp]]
      repeat (first | refine ⟨by omega, ?_⟩ | refine ⟨by rw [q0l0]; omega, ?_⟩)
      refine q002.ref hpa [] [] rfl Try.call214 (by simp) ?_ (by simp) (fun e R' hR => ?_) (.inl rfl) ?_
      . simp -implicitDefEqProofs only [sR', Nat.reduceEqDiff, ↓reduceIte]
      . simp -implicitDefEqProofs only [aR', go_sem]
      simp -implicitDefEqProofs only [cR', go_sem, evL, nodes, rows, ints, q0kz hx]
      repeat (first | refine ⟨by omega, ?_⟩ | refine ⟨by rw [q0l0]; omega, ?_⟩)
      rw [← hplc] at hix
      refine q004.pure hix [] rfl Try.call117 (fun e R' hR => ?_) (by first | trivial | simp [T.noSh, T.noShL, rat]) (fun _ => rfl) ?_
      . simp -implicitDefEqProofs only [aR', go_sem]
      simp -implicitDefEqProofs only [eR', go_sem, hy]
      repeat (first | refine ⟨by omega, ?_⟩ | refine ⟨by rw [q0l0]; omega, ?_⟩)
      refine hn1 _ (u, z * y) (Weak.o _ [] [] ?_ trivial) ⟨hku.1, by show z * y * wayP g S pl c u = _; rw [← hz, hwp, Int.mul_assoc, Int.mul_comm y], d + 1, by show (wayL g.nd u).length + (d + 1) <= _; omega, zc, by show z * y <= pw (d + 1); rw [q0ol]; omega⟩ (by show u < j; omega)
      simp -implicitDefEqProofs only [wR', Nat.reduceBEq, Nat.reduceEqDiff, ↓reduceIte, evL, nodes, wrap64 (n := z * y) (by omega) (by omega)]
    . rw [if_neg hxp, Int.mul_one] at hwp
      simp -implicitDefEqProofs only [eR', go_sem, evL, nodes, hup, q0ky hx, hpl2, decide_eq_true (show (j : Int) > 0 by omega), show (x.p == pl) = false by simp [hxp]]
      repeat (first | refine ⟨by omega, ?_⟩ | refine ⟨by rw [q0l0]; omega, ?_⟩)
      refine hn1 _ (u, z) (Weak.o _ [] [] ?_ trivial) ⟨hku.1, by rw [← hwp]; exact hz, d, by show (wayL g.nd u).length + d <= _; omega, z0, z1⟩ (by show u < j; omega)
      simp -implicitDefEqProofs only [wR', Nat.reduceBEq, Nat.reduceEqDiff, ↓reduceIte, evL, nodes]
end
end Go.Ab

/- The bridge, part 5: bytes. -/
namespace Go.Ab

def bytes (cs : List Int) : T := .sh 1 (cs.map fun x => .v (.int .u8 x))
def q161 (cs : List Int) : Prop := ∀ c ∈ cs, 0 <= c /\ c <= 255
def q168 : Ty := .sl 1 (.int .u8)
theorem wf8 {n : Int} (h : (Lit.int .u8 n).wf = true) : 0 <= n /\ n <= 255 := by
  simp [Lit.wf, IntKind.min, IntKind.max, IntKind.signed, IntKind.bits] at h
  omega
theorem q166 : ∀ {xs : List (List T)}, (∀ x ∈ xs, x.length = 1 /\ (Ty.int .u8).wt x) -> ∃ l : List Int, xs.flatten = (l.map fun x => T.v (.int .u8 x)) /\ l.length = xs.length /\ q161 l
  | [], _ => ⟨[], rfl, rfl, fun x hx => by simp at hx⟩
  | x :: xs, h => by
    obtain ⟨l, hl, hlen, hf⟩ := q166 (xs := xs) fun y hy => h y (by simp [hy])
    obtain ⟨_, n, rfl, hw⟩ := h x (by simp)
    refine ⟨n :: l, by simp [hl], by simp [hlen], fun y hy => ?_⟩
    rcases List.mem_cons.1 hy with rfl | hy
    . exact wf8 hw
    . exact hf y hy
theorem q169 {x : T} (h : q168.wt [x]) : ∃ l : List Int, x = bytes l /\ l.length <= 9223372036854775807 /\ q161 l := by
  obtain ⟨xs, hx, hlen, hall⟩ := h
  obtain ⟨l, hl, hll, hf⟩ := q166 hall
  simp only [List.cons.injEq, and_true] at hx
  exact ⟨l, by rw [hx, hl]; rfl, by rw [hll]; exact hlen, hf⟩
end Go.Ab

/- Contracts: the source of drawn numbers. -/
namespace Go.Ab
open Go.Proofs

def srcT (cs : List Int) (a : Nat × Int) : T := .box [bytes cs, .i a.1, .i a.2]
def q0qx (a : Nat × Int) : Prop := 0 <= a.2 /\ a.2 < 2147483647 /\ a.1 <= 1000000000000
def q0za (l : List Int) : Int := l.foldl (fun s c => (s * 61 + c) % 2147483647) 45007
theorem q0zc (l : List Int) (c : Int) : q0za (l ++ [c]) = (q0za l * 61 + c) % 2147483647 := by simp [q0za, List.foldl_append]
theorem q0zb (l : List Int) : 0 <= q0za l /\ q0za l < 2147483647 := by
  rcases List.eq_nil_or_concat l with rfl | ⟨l, c, rfl⟩
  . decide
  . rw [List.concat_eq_append, q0zc]
    omega
def q10m (cs : List Int) (a : Nat × Int) (n : Int) : Int × (Nat × Int) :=
  if n <= 1 then (0, a) else
  let s := (a.2 * 48271 + 29) % 2147483647
  if a.1 < cs.length then ((if n <= 256 /\ (a.1 + 1) % 2 = 0 then cs.getD a.1 0 else s / 31 + cs.getD a.1 0) % n, (a.1 + 1, s)) else ((s / 31) % n, (a.1, s))
theorem q10n {cs : List Int} {a : Nat × Int} {n : Int} (hn : 1 <= n) : 0 <= (q10m cs a n).1 /\ (q10m cs a n).1 < n := by
  unfold q10m
  split
  . omega
  . split
    . exact ⟨Int.emod_nonneg _ (by omega), Int.emod_lt_of_pos _ (by omega)⟩
    . exact ⟨Int.emod_nonneg _ (by omega), Int.emod_lt_of_pos _ (by omega)⟩

theorem q11z (cs : List Int) (hc : q161 cs) (hl : cs.length <= 1000000000000) : Fun Try.prog 119 [] [.t (bytes cs)] fun o r => o = [] /\ r = srcT cs (0, q0za (cs.take 64)) := by
  refine q0zm (by simp) ?_
  simp -implicitDefEqProofs only [eR', go_sem, q0yh, bytes]
  refine SemC.loopR (σ := Nat) (fun i => St.of [(0, .t (bytes cs)), (3, .own 7), (4, .t (.i i))] [(7, .box [bytes cs, .i 0, .i (q0za (cs.take i))])]) (fun i => i <= 64 /\ i <= cs.length) (fun i => 64 - i) 0 (Weak.o _ _ [some 7] ?_ ?_) ⟨by omega, by omega⟩ fun i hi R hn hr he => ?_
  . simp -implicitDefEqProofs only [wR', Nat.reduceBEq, Nat.reduceEqDiff, ↓reduceIte, bytes]
  . exact ⟨⟨_, rfl, .refl _⟩, rfl, trivial⟩
  . simp -implicitDefEqProofs only [eR', go_sem, bytes]
    refine ⟨fun h1 => ⟨fun h2 => ⟨by omega, by omega, by omega, fun c hcc => ⟨by decide, ?_⟩⟩, fun h2 => he _ _ ?_⟩, fun h1 => he _ _ ?_⟩
    . have hb := hc c (List.mem_of_getElem? hcc)
      have hf := q0zb (cs.take i)
      have e := q0zc (cs.take i) c
      rw [← q0uj hcc] at e
      have hw : (IntKind.i64.wrap (IntKind.i64.wrap (q0za (cs.take i) * 61) + IntKind.i64.wrap c)).tmod 2147483647 = q0za (cs.take (i + 1)) := by
        rw [wrap64 (n := c) (by omega) (by omega), wrap64 (n := q0za (cs.take i) * 61) (by omega) (by omega), wrap64 (n := q0za (cs.take i) * 61 + c) (by omega) (by omega), Int.tmod_eq_emod_of_nonneg (by omega), e]
      rw [hw]
      refine hn _ (i + 1) (Weak.o _ _ [some 7] ?_ ?_) ⟨by omega, by omega⟩ (by omega)
      . simp -implicitDefEqProofs only [wR', Nat.reduceBEq, Nat.reduceEqDiff, ↓reduceIte, bytes, q0lb (by omega : i < cs.length) (by omega)]
      . exact ⟨⟨_, rfl, .refl _⟩, rfl, trivial⟩
    . simp -implicitDefEqProofs only [eR', go_sem, srcT, bytes]
      rw [show i = 64 by omega]; rfl
    . simp -implicitDefEqProofs only [eR', go_sem, srcT, bytes]
      have e : cs.take i = cs.take 64 := by rw [List.take_of_length_le (by omega), List.take_of_length_le (by omega)]
      rw [e]; rfl
set_option maxRecDepth 10000 in
theorem q120 (cs : List Int) (hc : q161 cs) (hl : cs.length <= 100000000000) (a : Nat × Int) (ha : q0qx a) (n : Int) (hn : n <= 1000000000000) : Fun Try.prog 126 [srcT cs a] [.own 1000000000, .t (.i n)] fun o r => o = [srcT cs (q10m cs a n).2] /\ r = .i (q10m cs a n).1 := by
  refine q0zn (by simp) ?_
  simp -implicitDefEqProofs only [eR', go_sem, q0yi, srcT, bytes]
  obtain ⟨a1, a2⟩ := a
  obtain ⟨h1, h2, h3⟩ := ha
  simp only [] at h1 h2 h3
  have hs : (IntKind.i64.wrap (IntKind.i64.wrap (a2 * 48271) + 29)).tmod 2147483647 = (a2 * 48271 + 29) % 2147483647 := by
    rw [wrap64 (n := a2 * 48271) (by omega) (by omega), wrap64 (n := a2 * 48271 + 29) (by omega) (by omega), Int.tmod_eq_emod_of_nonneg (by omega)]
  have hs1 := Int.emod_nonneg (a2 * 48271 + 29) (show (2147483647 : Int) ≠ 0 by decide)
  have hs2 := Int.emod_lt_of_pos (a2 * 48271 + 29) (show (0 : Int) < 2147483647 by decide)
  have hw1 : IntKind.i64.wrap ((a1 : Int) + 1) = ((a1 + 1 : Nat) : Int) := by rw [wrap64 (by omega) (by omega)]; omega
  have hw2 : IntKind.i64.wrap (((a1 + 1 : Nat) : Int) - 1) = (a1 : Int) := by rw [wrap64 (by omega) (by omega)]; omega
  simp only [hs, hw1, hw2, Int.toNat_natCast]
  have hnx : q10m cs (a1, a2) n = if n <= 1 then (0, (a1, a2)) else if a1 < cs.length then ((if n <= 256 /\ (a1 + 1) % 2 = 0 then cs.getD a1 0 else (a2 * 48271 + 29) % 2147483647 / 31 + cs.getD a1 0) % n, (a1 + 1, (a2 * 48271 + 29) % 2147483647)) else (((a2 * 48271 + 29) % 2147483647 / 31) % n, (a1, (a2 * 48271 + 29) % 2147483647)) := rfl
  generalize (a2 * 48271 + 29) % 2147483647 = s at hs1 hs2 hnx ⊢
  have hq : IntKind.i64.wrap (s.tdiv 31) = s / 31 := by rw [Int.tdiv_eq_ediv_of_nonneg hs1, wrap64 (by omega) (by omega)]
  have hq' : s.tdiv 31 = s / 31 := Int.tdiv_eq_ediv_of_nonneg hs1
  have hqs : IntKind.i64.wrap (s / 31) = s / 31 := wrap64 (by omega) (by omega)
  rw [hnx]
  by_cases hn1 : n <= 1
  . simp only [if_pos hn1]
    exact ⟨fun _ => by simp, fun h => absurd hn1 h⟩
  . simp only [if_neg hn1]
    refine ⟨fun h => absurd h hn1, fun _ => ⟨by decide, by decide, fun hl1 => ?_, fun hl1 => ?_⟩⟩
    . have hl2 : a1 < cs.length := by omega
      obtain ⟨c, hcc⟩ : ∃ c, cs[a1]? = some c := ⟨_, List.getElem?_eq_getElem hl2⟩
      have hcb := hc c (List.mem_of_getElem? hcc)
      have hg : cs.getD a1 0 = c := by rw [List.getD_eq_getElem?_getD, hcc]; rfl
      have hwc : IntKind.i64.wrap c = c := wrap64 (by omega) (by omega)
      simp only [if_pos hl2, hcc, hg, Option.some.injEq, forall_eq', hwc]
      have hws : IntKind.i64.wrap (s / 31 + c) = s / 31 + c := wrap64 (by omega) (by omega)
      simp only [hq', hqs, hws]
      refine ⟨by omega, by omega, by omega, fun h256 => ⟨by decide, fun he => ⟨by omega, by omega, by omega, by omega, by first | trivial | rfl, ?_⟩, fun he => ⟨by omega, by first | trivial | rfl, ?_⟩⟩, fun h256 => ⟨by omega, by first | trivial | rfl, ?_⟩⟩
      . rw [beq_iff_eq, Int.tmod_eq_emod_of_nonneg (by omega)] at he
        rw [if_pos ⟨h256, by omega⟩, Int.tmod_eq_emod_of_nonneg (by omega)]
      . rw [beq_eq_false_iff_ne, Int.tmod_eq_emod_of_nonneg (by omega)] at he
        rw [if_neg (by omega), Int.tmod_eq_emod_of_nonneg (by omega)]
      . rw [if_neg (by omega), Int.tmod_eq_emod_of_nonneg (by omega)]
    . have hl2 : ¬ a1 < cs.length := by omega
      simp only [if_neg hl2, hq', hqs]
      refine ⟨by omega, by first | trivial | rfl, ?_⟩
      rw [Int.tmod_eq_emod_of_nonneg (by omega)]

theorem q10o {cs : List Int} {a : Nat × Int} (hl : cs.length <= 100000000000) (ha : q0qx a) (n : Int) : q0qx (q10m cs a n).2 := by
  obtain ⟨h1, h2, h3⟩ := ha
  have hs1 := Int.emod_nonneg (a.2 * 48271 + 29) (show (2147483647 : Int) ≠ 0 by decide)
  have hs2 := Int.emod_lt_of_pos (a.2 * 48271 + 29) (show (0 : Int) < 2147483647 by decide)
  unfold q10m
  split
  . exact ⟨h1, h2, h3⟩
  . split
    . exact ⟨hs1, hs2, by show a.1 + 1 <= _; omega⟩
    . exact ⟨hs1, hs2, h3⟩
theorem q11l (l : List Int) : q0qx (0, q0za l) := ⟨(q0zb l).1, (q0zb l).2, Nat.zero_le _⟩
def q115 (cs : List Int) (a : Nat × Int) (l : List Int) : Int × (Nat × Int) := (l.getD (q10m cs a l.length).1.toNat 0, (q10m cs a l.length).2)
theorem q10p (cs : List Int) (hc : q161 cs) (hl : cs.length <= 100000000000) (a : Nat × Int) (ha : q0qx a) (n : Int) (hn : n <= 1000000000000) : Fun Try.prog 126 [.box [bytes cs, .i a.1, .i a.2]] [.own 1000000000, .t (.i n)] fun o r => o = [.box [bytes cs, .i (q10m cs a n).2.1, .i (q10m cs a n).2.2]] /\ r = .i (q10m cs a n).1 := q120 cs hc hl a ha n hn
theorem q116 {cs : List Int} {a : Nat × Int} (hl : cs.length <= 100000000000) (ha : q0qx a) (l : List Int) : q0qx (q115 cs a l).2 := q10o hl ha _
theorem q117 (cs : List Int) (hc : q161 cs) (hl : cs.length <= 100000000000) (a : Nat × Int) (ha : q0qx a) (l : List Int) (h1 : 1 <= l.length) (h2 : l.length <= 1000000) : Fun Try.prog 147 [.box [bytes cs, .i a.1, .i a.2], intsO l] [.own 1000000000, .own 1000000001] fun o r => o = [.box [bytes cs, .i (q115 cs a l).2.1, .i (q115 cs a l).2.2], intsO l] /\ r = .i (q115 cs a l).1 := by
  have hb := q10n (cs := cs) (a := a) (show (1 : Int) <= l.length by omega)
  obtain ⟨x, hx⟩ : ∃ x, l[(q10m cs a l.length).1.toNat]? = some x := ⟨_, List.getElem?_eq_getElem (show (q10m cs a l.length).1.toNat < l.length by omega)⟩
  have hg : (q115 cs a l).1 = x := by rw [q115, List.getD_eq_getElem?_getD, hx]; rfl
  refine q0zo (by simp) ?_
  simp -implicitDefEqProofs only [eR', go_sem, q0yj, intsO]
  refine q006.ref (q10p cs hc hl a ha l.length (by omega)) [1000000000] [] rfl Try.call126 (by simp) ?_ (by simp) ?_ (.inl rfl) ?_
  . simp -implicitDefEqProofs only [sR', Nat.reduceEqDiff, ↓reduceIte]
  . simp -implicitDefEqProofs only [aR', go_sem]
  simp -implicitDefEqProofs only [cR', go_sem]
  refine ⟨by omega, by omega, by omega, fun y hy => ?_⟩
  rw [hx] at hy; cases hy
  exact ⟨rfl, by rw [hg]⟩
def LeL (l l' : List T) : Prop := l.length = l'.length /\ ∀ i (h : i < l.length) (h' : i < l'.length), Le l[i] l'[i]
theorem LeL.refl (l : List T) : LeL l l := ⟨rfl, fun _ _ _ => .refl _⟩
theorem LeL.cons {a a' : T} {l l' : List T} (h : Le a a') (h' : LeL l l') : LeL (a :: l) (a' :: l') := by
  refine ⟨by simp [h'.1], fun i q q' => ?_⟩
  cases i with
  | zero => exact h
  | succ i => simpa using h'.2 i (by simpa using q) (by simpa using q')
theorem LeL.append : ∀ {l l' m m' : List T}, LeL l l' -> LeL m m' -> LeL (l ++ m) (l' ++ m')
  | [], [], _, _, _, h => h
  | [], _ :: _, _, _, h, _ => absurd h.1 (by simp)
  | _ :: _, [], _, _, h, _ => absurd h.1 (by simp)
  | a :: l, a' :: l', m, m', h, h2 => LeL.cons (h.2 0 (by simp) (by simp)) (LeL.append ⟨by have := h.1; simpa using this, fun i q q' => by have := h.2 (i + 1) (by simpa using q) (by simpa using q'); simpa using this⟩ h2)
theorem LeL.arr {s : Nat} {l l' : List T} (h : LeL l l') : Le (.arr s l) (.arr s l') := .arr s h.1 h.2
def q0rx (b : Nat) (l : List Nd) : Prop := l.length <= b /\ ∀ x ∈ l, x.ch.length <= 8
theorem q0yv : ∀ (l : List Nd) (i : Nat) (x : Nd) (ch : List Int), l[i]? = some x -> (chunk q0lv l).set (i * 5 + 4) (intsO ch) = chunk q0lv (l.set i ⟨x.p, x.a, x.b, x.f, ch⟩)
  | [], i, x, ch, h => by simp at h
  | a :: l, 0, x, ch, h => by
    simp at h; subst h
    rw [q069, List.set_cons_zero, q069]; rfl
  | a :: l, i + 1, x, ch, h => by
    rw [q069, List.set_append_right _ _ (by rw [q0lw]; omega), q0lw, show (i + 1) * 5 + 4 - 5 = i * 5 + 4 by omega, q0yv l i x ch (by simpa using h), List.set_cons_succ, q069]
theorem q11s {b : Nat} {l : List Nd} (h : q0rx b l) (i : Nat) (x : Nd) (hx : x.ch.length <= 8) : q0rx b (l.set i x) := by
  refine ⟨by rw [List.length_set]; exact h.1, fun y hy => ?_⟩
  rcases List.mem_or_eq_of_mem_set hy with hy | rfl
  . exact h.2 y hy
  . exact hx
section
attribute [-go_sem] q0i5 q0id fldC lenC idxC q0ip
theorem q125 (bet : Int) (hb : 1 <= bet /\ bet <= 1000) (B : Nat) (hB : B <= 1000) (M : Int) (hM : M <= 10000) : ∀ (r : Nat), r <= 2 -> ∀ (l : List Nd) (pl p0 p1 : Int) (ck : Bool), q0rx B l -> l.length + 3 * (r + 1) <= B -> (pl = 0 /\ p0 < p1 ∨ pl = 1 /\ p1 < p0) -> 0 <= p0 -> 0 <= p1 -> p0 + 1000 * (r : Int) <= M -> p1 + 1000 * (r : Int) <= M →
    ∃ l' : List Nd, q0rx (l.length + 3 * (r + 1)) l' /\ l.length < l'.length /\ Fun Try.prog 217 [q0m0 l] [.own 1000000000, .t (.i pl), .t (.i p0), .t (.i p1), .t (.i bet), .t (.i r), .t (.b ck)] fun o res => o = [.any] /\ res = q0m0 l'
  | 0, hr, l, pl, p0, p1, ck, hl, hlB, hp, q0, q1, q2, q3 => by
    have hfin : ∀ (a b : Int) (ch : List Int), ch.length <= 8 -> Fun Try.prog 217 [q0m0 l] [.own 1000000000, .t (.i pl), .t (.i p0), .t (.i p1), .t (.i bet), .t (.i (0 : Nat)), .t (.b ck)] (fun o res => o = [.any] /\ res = .arr 5 (chunk q0lv l ++ [.i pl, .i p0, .i p1, .i (-1), intsO ch] ++ [.i 2, .i p0, .i p1, .i pl, .v (.slice none 0 0)] ++ [.i 2, .i a, .i b, .i (-1), .v (.slice none 0 0)])) →
        ∃ l' : List Nd, q0rx (l.length + 3 * (0 + 1)) l' /\ l.length < l'.length /\ Fun Try.prog 217 [q0m0 l] [.own 1000000000, .t (.i pl), .t (.i p0), .t (.i p1), .t (.i bet), .t (.i (0 : Nat)), .t (.b ck)] fun o res => o = [.any] /\ res = q0m0 l' := fun a b ch hch hF => by
      refine ⟨l ++ [⟨pl, p0, p1, -1, ch⟩, ⟨2, p0, p1, pl, []⟩, ⟨2, a, b, -1, []⟩], ⟨by simp, fun x hx => ?_⟩, by simp, Fun.le hF ?_⟩
      . simp only [List.mem_append, List.mem_cons, List.not_mem_nil, or_false] at hx
        rcases hx with hx | rfl | rfl | rfl
        . exact hl.2 x hx
        . exact hch
        . simp
        . simp
      . rintro o res ⟨rfl, rfl⟩
        refine ⟨_, ?_, rfl, rfl⟩
        rw [q0m0, q067]
        refine LeL.arr ?_
        rw [List.append_assoc, List.append_assoc]
        refine LeL.append (.refl _) ?_
        exact LeL.cons (.refl _) (LeL.cons (.refl _) (LeL.cons (.refl _) (LeL.cons (.refl _) (LeL.cons (.refl _) (LeL.cons (.refl _) (LeL.cons (.refl _) (LeL.cons (.refl _) (LeL.cons (.refl _) (LeL.cons (.nilArr 1) (LeL.cons (.refl _) (LeL.cons (.refl _) (LeL.cons (.refl _) (LeL.cons (.refl _) (LeL.cons (.nilArr 1) (.refl _)))))))))))))))
    have hnl : (chunk q0lv l).length / 5 = l.length := q06a q0lw (by decide) l
    have hnl5 : (chunk q0lv l).length = l.length * 5 := q06d q0lw l
    have hl1 := hl.1
    have hset : ∀ (x y : List T) (c d : T) (z : List T), x.length = l.length * 5 -> y.length = 4 -> (x ++ (y ++ c :: z)).set (l.length * 5 + 4) d = x ++ (y ++ d :: z) := fun x y c d z h1 h2 => by
      rw [List.set_append_right _ _ (by omega), List.set_append_right _ _ (by omega), show l.length * 5 + 4 - x.length - y.length = 0 by omega, List.set_cons_zero]
    rcases hp with ⟨rfl, hp⟩ | ⟨rfl, hp⟩
    . refine hfin p1 p1 [((l.length * 5 + 5) / 5 : Nat), ((l.length * 5 + 5 + 5) / 5 : Nat)] (by simp) ?_
      refine q0zr (by simp) ?_
      simp -implicitDefEqProofs only [eR', go_sem, q0ym, q0m0, hnl, hnl5, decide_eq_true hp, (show ((0 : Int) == 1) = false from rfl), (show (((0 : Nat) : Int) == 0) = true from rfl), List.length_append, List.length_cons, List.length_nil, Bool.false_eq_true, false_implies, forall_const, true_and]
      refine ⟨by omega, by omega, by omega, by omega, by omega, by omega, ?_⟩
      rw [show l.length * 5 / 5 * 5 + 4 = l.length * 5 + 4 by omega, List.append_assoc, List.append_assoc, List.append_assoc, List.append_assoc]
      congr 1
      exact hset (chunk q0lv l) [T.i 0, T.i p0, T.i p1, T.i (-1)] _ _ _ hnl5 rfl
    . refine hfin p0 p0 [((l.length * 5 + 5) / 5 : Nat), ((l.length * 5 + 5 + 5) / 5 : Nat)] (by simp) ?_
      refine q0zr (by simp) ?_
      simp -implicitDefEqProofs only [eR', go_sem, q0ym, q0m0, hnl, hnl5, decide_eq_true hp, (show ((1 : Int) == 1) = true from rfl), (show (((0 : Nat) : Int) == 0) = true from rfl), List.length_append, List.length_cons, List.length_nil, Bool.false_eq_true, false_implies, forall_const, true_and]
      refine ⟨by omega, by omega, by omega, by omega, by omega, by omega, ?_⟩
      rw [show l.length * 5 / 5 * 5 + 4 = l.length * 5 + 4 by omega, List.append_assoc, List.append_assoc, List.append_assoc, List.append_assoc]
      congr 1
      exact hset (chunk q0lv l) [T.i 1, T.i p0, T.i p1, T.i (-1)] _ _ _ hnl5 rfl
  | r + 1, hr, l, pl, p0, p1, ck, hl, hlB, hp, q0, q1, q2, q3 => by
    have hnl : (chunk q0lv l).length / 5 = l.length := q06a q0lw (by decide) l
    have hnl5 : (chunk q0lv l).length = l.length * 5 := q06d q0lw l
    have hl1 := hl.1
    have hr0 : (((r + 1 : Nat) : Int) == 0) = false := by simp; omega
    rcases hp with ⟨rfl, hp⟩ | ⟨rfl, hp⟩
    . obtain ⟨l', hl2, hl3, hrec⟩ := q125 bet hb B hB M hM r (by omega) (l ++ [⟨0, p0, p1, -1, []⟩, ⟨2, p0, p1, 0, []⟩, ⟨2, p1, p1, -1, []⟩]) 1 (p1 + bet) p1 false ⟨by simp; omega, fun x hx => by
        simp only [List.mem_append, List.mem_cons, List.not_mem_nil, or_false] at hx
        rcases hx with hx | rfl | rfl | rfl
        . exact hl.2 x hx
        all_goals simp⟩ (by simp; omega) (.inr ⟨rfl, by omega⟩) (by omega) q1 (by omega) (by omega)
      simp only [List.length_append, List.length_cons, List.length_nil] at hl2 hl3
      have hnl' : (chunk q0lv l').length = l'.length * 5 := q06d q0lw l'
      obtain ⟨z, hz⟩ : ∃ z, l'[l.length]? = some z := ⟨_, List.getElem?_eq_getElem (by omega)⟩
      refine ⟨l'.set l.length ⟨z.p, z.a, z.b, z.f, [((l.length * 5 + 5) / 5 : Nat), ((l.length * 5 + 5 + 5) / 5 : Nat), ((l.length * 5 + 5 + 5 + 5) / 5 : Nat)]⟩, q11s ⟨by have := hl2.1; omega, hl2.2⟩ _ _ (by simp), by rw [List.length_set]; omega, ?_⟩
      refine q0zr (by simp) ?_
      simp -implicitDefEqProofs only [eR', go_sem, q0ym, q0m0, hnl, hnl5, decide_eq_true hp, (show ((0 : Int) == 1) = false from rfl), (show ((0 : Int) == 0) = true from rfl), hr0, List.length_append, List.length_cons, List.length_nil, Bool.false_eq_true, false_implies, forall_const, true_and]
      have hq : l.length * 5 / 5 = l.length := by omega
      have hw0 : IntKind.i64.wrap (1 - 0) = 1 := by decide
      have hw1 : IntKind.i64.wrap (p1 + bet) = p1 + bet := wrap64 (by omega) (by omega)
      have hw2 : IntKind.i64.wrap (((r + 1 : Nat) : Int) - 1) = (r : Int) := by rw [wrap64 (by omega) (by omega)]; omega
      refine ⟨by omega, by omega, by omega, ?_⟩
      simp only [hw0, hw1, hw2, hq]
      refine q006.weak (Weak.le 66 (t' := q0m0 (l ++ [⟨0, p0, p1, -1, []⟩, ⟨2, p0, p1, 0, []⟩, ⟨2, p1, p1, -1, []⟩])) rfl ?_ rfl) ?_
      . rw [q0m0, q067, List.append_assoc, List.append_assoc]
        refine LeL.arr (LeL.append (.refl _) ?_)
        exact LeL.cons (.refl _) (LeL.cons (.refl _) (LeL.cons (.refl _) (LeL.cons (.refl _) (LeL.cons (.nilArr 1) (LeL.cons (.refl _) (LeL.cons (.refl _) (LeL.cons (.refl _) (LeL.cons (.refl _) (LeL.cons (.nilArr 1) (LeL.cons (.refl _) (LeL.cons (.refl _) (LeL.cons (.refl _) (LeL.cons (.refl _) (LeL.cons (.nilArr 1) (.refl _)))))))))))))))
      refine q006.ref hrec [66] [] rfl Try.call217 (by simp) ?_ (by simp) ?_ (.inl rfl) ?_
      . simp -implicitDefEqProofs only [sR', Nat.reduceEqDiff, ↓reduceIte]
      . simp -implicitDefEqProofs only [aR', go_sem]
      simp -implicitDefEqProofs only [cR', go_sem, q0m0]
      refine ⟨by omega, by omega, by omega, ?_⟩
      rw [← q0yv l' l.length z _ hz]; rfl
    . obtain ⟨l', hl2, hl3, hrec⟩ := q125 bet hb B hB M hM r (by omega) (l ++ [⟨1, p0, p1, -1, []⟩, ⟨2, p0, p1, 1, []⟩, ⟨2, p0, p0, -1, []⟩]) 0 p0 (p0 + bet) false ⟨by simp; omega, fun x hx => by
        simp only [List.mem_append, List.mem_cons, List.not_mem_nil, or_false] at hx
        rcases hx with hx | rfl | rfl | rfl
        . exact hl.2 x hx
        all_goals simp⟩ (by simp; omega) (.inl ⟨rfl, by omega⟩) q0 (by omega) (by omega) (by omega)
      simp only [List.length_append, List.length_cons, List.length_nil] at hl2 hl3
      have hnl' : (chunk q0lv l').length = l'.length * 5 := q06d q0lw l'
      obtain ⟨z, hz⟩ : ∃ z, l'[l.length]? = some z := ⟨_, List.getElem?_eq_getElem (by omega)⟩
      refine ⟨l'.set l.length ⟨z.p, z.a, z.b, z.f, [((l.length * 5 + 5) / 5 : Nat), ((l.length * 5 + 5 + 5) / 5 : Nat), ((l.length * 5 + 5 + 5 + 5) / 5 : Nat)]⟩, q11s ⟨by have := hl2.1; omega, hl2.2⟩ _ _ (by simp), by rw [List.length_set]; omega, ?_⟩
      refine q0zr (by simp) ?_
      simp -implicitDefEqProofs only [eR', go_sem, q0ym, q0m0, hnl, hnl5, decide_eq_true hp, (show ((1 : Int) == 1) = true from rfl), (show ((1 : Int) == 0) = false from rfl), hr0, List.length_append, List.length_cons, List.length_nil, Bool.false_eq_true, false_implies, forall_const, true_and]
      have hq : l.length * 5 / 5 = l.length := by omega
      have hw0 : IntKind.i64.wrap (1 - 1) = 0 := by decide
      have hw1 : IntKind.i64.wrap (p0 + bet) = p0 + bet := wrap64 (by omega) (by omega)
      have hw2 : IntKind.i64.wrap (((r + 1 : Nat) : Int) - 1) = (r : Int) := by rw [wrap64 (by omega) (by omega)]; omega
      refine ⟨by omega, by omega, by omega, ?_⟩
      simp only [hw0, hw1, hw2, hq]
      refine q006.weak (Weak.le 66 (t' := q0m0 (l ++ [⟨1, p0, p1, -1, []⟩, ⟨2, p0, p1, 1, []⟩, ⟨2, p0, p0, -1, []⟩])) rfl ?_ rfl) ?_
      . rw [q0m0, q067, List.append_assoc, List.append_assoc]
        refine LeL.arr (LeL.append (.refl _) ?_)
        exact LeL.cons (.refl _) (LeL.cons (.refl _) (LeL.cons (.refl _) (LeL.cons (.refl _) (LeL.cons (.nilArr 1) (LeL.cons (.refl _) (LeL.cons (.refl _) (LeL.cons (.refl _) (LeL.cons (.refl _) (LeL.cons (.nilArr 1) (LeL.cons (.refl _) (LeL.cons (.refl _) (LeL.cons (.refl _) (LeL.cons (.refl _) (LeL.cons (.nilArr 1) (.refl _)))))))))))))))
      refine q006.ref hrec [66] [] rfl Try.call217 (by simp) ?_ (by simp) ?_ (.inl rfl) ?_
      . simp -implicitDefEqProofs only [sR', Nat.reduceEqDiff, ↓reduceIte]
      . simp -implicitDefEqProofs only [aR', go_sem]
      simp -implicitDefEqProofs only [cR', go_sem, q0m0]
      refine ⟨by omega, by omega, by omega, ?_⟩
      rw [← q0yv l' l.length z _ hz]; rfl
theorem q124 (bet : Int) (hb : 1 <= bet /\ bet <= 1000) (r : Nat) (hr : r <= 2) (l : List Nd) (pl p : Int) (hl : q0rx 900 l) (hp : pl = 0 ∨ pl = 1) (q0 : 0 <= p) (q1 : p <= 1000) :
    ∃ l' : List Nd, q0rx (l.length + 2 + 3 * (r + 1)) l' /\ l.length < l'.length /\ Fun Try.prog 217 [q0m0 l] [.own 1000000000, .t (.i pl), .t (.i p), .t (.i p), .t (.i bet), .t (.i r), .t (.b true)] fun o res => o = [.any] /\ res = q0m0 l' := by
  have hnl : (chunk q0lv l).length / 5 = l.length := q06a q0lw (by decide) l
  have hnl5 : (chunk q0lv l).length = l.length * 5 := q06d q0lw l
  have hl1 := hl.1
  have hq : l.length * 5 / 5 = l.length := by omega
  have hw1 : IntKind.i64.wrap (p + bet) = p + bet := wrap64 (by omega) (by omega)
  rcases hp with rfl | rfl
  . obtain ⟨l', hl2, hl3, hrec⟩ := q125 bet hb 1000 (by omega) 10000 (by omega) r hr (l ++ [⟨0, p, p, -1, []⟩, ⟨2, p, p, -1, []⟩]) 1 (p + bet) p false ⟨by simp; omega, fun x hx => by
      simp only [List.mem_append, List.mem_cons, List.not_mem_nil, or_false] at hx
      rcases hx with hx | rfl | rfl
      . exact hl.2 x hx
      all_goals simp⟩ (by simp; omega) (.inr ⟨rfl, by omega⟩) (by omega) q0 (by omega) (by omega)
    simp only [List.length_append, List.length_cons, List.length_nil] at hl2 hl3
    have hnl' : (chunk q0lv l').length = l'.length * 5 := q06d q0lw l'
    obtain ⟨z, hz⟩ : ∃ z, l'[l.length]? = some z := ⟨_, List.getElem?_eq_getElem (by omega)⟩
    refine ⟨l'.set l.length ⟨z.p, z.a, z.b, z.f, [((l.length * 5 + 5) / 5 : Nat), ((l.length * 5 + 5 + 5) / 5 : Nat)]⟩, q11s ⟨by have := hl2.1; omega, hl2.2⟩ _ _ (by simp), by rw [List.length_set]; omega, ?_⟩
    refine q0zr (by simp) ?_
    have hw0 : IntKind.i64.wrap (1 - 0) = 1 := by decide
    simp -implicitDefEqProofs only [eR', go_sem, q0ym, q0m0, hnl, hnl5, decide_eq_false (show ¬ p < p by omega), (show ((0 : Int) == 1) = false from rfl), (show ((0 : Int) == 0) = true from rfl), List.length_append, List.length_cons, List.length_nil, Bool.false_eq_true, false_implies, forall_const, true_and]
    refine ⟨by omega, by omega, ?_⟩
    simp only [hw0, hw1, hq]
    refine q006.weak (Weak.le 84 (t' := q0m0 (l ++ [⟨0, p, p, -1, []⟩, ⟨2, p, p, -1, []⟩])) rfl ?_ rfl) ?_
    . rw [q0m0, q067, List.append_assoc]
      refine LeL.arr (LeL.append (.refl _) ?_)
      exact LeL.cons (.refl _) (LeL.cons (.refl _) (LeL.cons (.refl _) (LeL.cons (.refl _) (LeL.cons (.nilArr 1) (LeL.cons (.refl _) (LeL.cons (.refl _) (LeL.cons (.refl _) (LeL.cons (.refl _) (LeL.cons (.nilArr 1) (.refl _))))))))))
    refine q006.ref hrec [84] [] rfl Try.call217 (by simp) ?_ (by simp) ?_ (.inl rfl) ?_
    . simp -implicitDefEqProofs only [sR', Nat.reduceEqDiff, ↓reduceIte]
    . simp -implicitDefEqProofs only [aR', go_sem]
    simp -implicitDefEqProofs only [cR', go_sem, q0m0]
    refine ⟨by omega, by omega, by omega, ?_⟩
    rw [← q0yv l' l.length z _ hz]; rfl
  . obtain ⟨l', hl2, hl3, hrec⟩ := q125 bet hb 1000 (by omega) 10000 (by omega) r hr (l ++ [⟨1, p, p, -1, []⟩, ⟨2, p, p, -1, []⟩]) 0 p (p + bet) false ⟨by simp; omega, fun x hx => by
      simp only [List.mem_append, List.mem_cons, List.not_mem_nil, or_false] at hx
      rcases hx with hx | rfl | rfl
      . exact hl.2 x hx
      all_goals simp⟩ (by simp; omega) (.inl ⟨rfl, by omega⟩) q0 (by omega) (by omega) (by omega)
    simp only [List.length_append, List.length_cons, List.length_nil] at hl2 hl3
    have hnl' : (chunk q0lv l').length = l'.length * 5 := q06d q0lw l'
    obtain ⟨z, hz⟩ : ∃ z, l'[l.length]? = some z := ⟨_, List.getElem?_eq_getElem (by omega)⟩
    refine ⟨l'.set l.length ⟨z.p, z.a, z.b, z.f, [((l.length * 5 + 5) / 5 : Nat), ((l.length * 5 + 5 + 5) / 5 : Nat)]⟩, q11s ⟨by have := hl2.1; omega, hl2.2⟩ _ _ (by simp), by rw [List.length_set]; omega, ?_⟩
    refine q0zr (by simp) ?_
    have hw0 : IntKind.i64.wrap (1 - 1) = 0 := by decide
    simp -implicitDefEqProofs only [eR', go_sem, q0ym, q0m0, hnl, hnl5, decide_eq_false (show ¬ p < p by omega), (show ((1 : Int) == 1) = true from rfl), (show ((1 : Int) == 0) = false from rfl), List.length_append, List.length_cons, List.length_nil, Bool.false_eq_true, false_implies, forall_const, true_and]
    refine ⟨by omega, by omega, ?_⟩
    simp only [hw0, hw1, hq]
    refine q006.weak (Weak.le 84 (t' := q0m0 (l ++ [⟨1, p, p, -1, []⟩, ⟨2, p, p, -1, []⟩])) rfl ?_ rfl) ?_
    . rw [q0m0, q067, List.append_assoc]
      refine LeL.arr (LeL.append (.refl _) ?_)
      exact LeL.cons (.refl _) (LeL.cons (.refl _) (LeL.cons (.refl _) (LeL.cons (.refl _) (LeL.cons (.nilArr 1) (LeL.cons (.refl _) (LeL.cons (.refl _) (LeL.cons (.refl _) (LeL.cons (.refl _) (LeL.cons (.nilArr 1) (.refl _))))))))))
    refine q006.ref hrec [84] [] rfl Try.call217 (by simp) ?_ (by simp) ?_ (.inl rfl) ?_
    . simp -implicitDefEqProofs only [sR', Nat.reduceEqDiff, ↓reduceIte]
    . simp -implicitDefEqProofs only [aR', go_sem]
    simp -implicitDefEqProofs only [cR', go_sem, q0m0]
    refine ⟨by omega, by omega, by omega, ?_⟩
    rw [← q0yv l' l.length z _ hz]; rfl
theorem q123 (bet : Int) (hb : 1 <= bet /\ bet <= 1000) (r : Nat) (hr : r <= 2) (p : Int) (q0 : 0 <= p) (q1 : p <= 1000) :
    ∃ l' : List Nd, q0rx 100 l' /\ 0 < l'.length /\ Fun Try.prog 217 [] [.t (.v (.slice none 0 0)), .t (.i 0), .t (.i p), .t (.i p), .t (.i bet), .t (.i r), .t (.b false)] fun o res => o = [] /\ res = q0m0 l' := by
  obtain ⟨l1, hl2, hl3, hC⟩ := q124 bet hb r hr [⟨0, p, p, -1, []⟩] 1 p ⟨by simp, by simp⟩ (.inr rfl) q0 q1
  simp only [List.length_cons, List.length_nil] at hl2 hl3
  have h1 := hl2.1
  obtain ⟨l2, hl5, hl6, hrec⟩ := q125 bet hb 1000 (by omega) 10000 (by omega) r hr l1 1 (p + bet) p false ⟨by omega, hl2.2⟩ (by omega) (.inr ⟨rfl, by omega⟩) (by omega) q0 (by omega) (by omega)
  have hnl' : (chunk q0lv l2).length = l2.length * 5 := q06d q0lw l2
  obtain ⟨z, hz⟩ : ∃ z, l2[0]? = some z := ⟨_, List.getElem?_eq_getElem (by omega)⟩
  refine ⟨l2.set 0 ⟨z.p, z.a, z.b, z.f, [1, ((chunk q0lv l1).length / 5 : Nat)]⟩, q11s ⟨by have := hl5.1; omega, hl5.2⟩ _ _ (by simp), by rw [List.length_set]; omega, ?_⟩
  refine q0zr (by simp) ?_
  have hw1 : IntKind.i64.wrap (p + bet) = p + bet := wrap64 (by omega) (by omega)
  have hw0 : IntKind.i64.wrap (1 - 0) = 1 := by decide
  simp -implicitDefEqProofs only [eR', go_sem, q0ym, q0m0, decide_eq_false (show ¬ p < p by omega), (show ((0 : Int) == 1) = false from rfl), (show ((0 : Int) == 0) = true from rfl), List.length_append, List.length_cons, List.length_nil, Bool.false_eq_true, false_implies, forall_const, true_and]
  simp only [hw0]
  refine q006.weak (Weak.le 27 (t' := q0m0 [⟨0, p, p, -1, []⟩]) rfl ?_ rfl) ?_
  . exact LeL.arr (LeL.cons (.refl _) (LeL.cons (.refl _) (LeL.cons (.refl _) (LeL.cons (.refl _) (LeL.cons (.nilArr 1) (.refl _))))))
  refine q006.ref hC [27] [] rfl Try.call217 (by simp) ?_ (by simp) ?_ (.inl rfl) ?_
  . simp -implicitDefEqProofs only [sR', Nat.reduceEqDiff, ↓reduceIte]
  . simp -implicitDefEqProofs only [aR', go_sem]
  simp -implicitDefEqProofs only [cR', go_sem, q0m0, (show ((0 : Int) == 0) = true from rfl), forall_const, Bool.false_eq_true, false_implies, true_and]
  simp only [hw0, hw1]
  simp only [q0m0] at hrec
  refine q006.ref hrec [44] [] rfl Try.call217 (by simp) ?_ (by simp) ?_ (.inl rfl) ?_
  . simp -implicitDefEqProofs only [sR', Nat.reduceEqDiff, ↓reduceIte]
  . simp -implicitDefEqProofs only [aR', go_sem]
  simp -implicitDefEqProofs only [cR', go_sem]
  refine ⟨by omega, by omega, ?_⟩
  rw [← q0yv l2 0 z _ hz]; rfl
theorem q11u (ante bet : Int) (r : Nat) (h0 : 0 <= ante) (h1 : ante <= 20) (b0 : 1 <= bet) (b1 : bet <= 20) (hr : r <= 1) :
    ∃ l' : List Nd, q0rx 100 l' /\ 0 < l'.length /\ Fun Try.prog 184 [] [.t (.i ante), .t (.i bet), .t (.i r)] fun o res => o = [] /\ res = .tup [.agg [q0m0 l'], .i 0] := by
  obtain ⟨l', h1', h2', hG⟩ := q123 bet (by omega) r (by omega) ante h0 (by omega)
  refine ⟨l', h1', h2', ?_⟩
  refine q0zh (by simp) ?_
  simp -implicitDefEqProofs only [eR', go_sem, q0yc]
  have e1 : decide (0 <= ante /\ ante <= 100) = true := decide_eq_true (by omega)
  have e2 : decide (1 <= bet /\ bet <= 100) = true := decide_eq_true (by omega)
  have e3 : decide ((0 : Int) <= (r : Int) /\ (r : Int) <= 2) = true := decide_eq_true (by omega)
  refine q006.p (q0s4 ante 0 100) [] rfl Try.call148 ?_ ?_
  . simp -implicitDefEqProofs only [aR', go_sem]
  simp -implicitDefEqProofs only [eR', go_sem, e1, Bool.not_true]
  refine q006.p (q0s4 bet 1 100) [] rfl Try.call148 ?_ ?_
  . simp -implicitDefEqProofs only [aR', go_sem]
  simp -implicitDefEqProofs only [eR', go_sem, e2, Bool.not_true]
  refine q006.p (q0s4 r 0 2) [] rfl Try.call148 ?_ ?_
  . simp -implicitDefEqProofs only [aR', go_sem]
  simp -implicitDefEqProofs only [eR', go_sem, e3, Bool.not_true]
  have hm : 0 <= bet * ((r : Int) + 1) /\ bet * ((r : Int) + 1) <= 40 := by
    have : (r : Int) = 0 ∨ (r : Int) = 1 := by omega
    rcases this with h | h <;> rw [h] <;> omega
  have hw1 : IntKind.i64.wrap ((r : Int) + 1) = (r : Int) + 1 := wrap64 (by omega) (by omega)
  have hw2 : IntKind.i64.wrap (bet * ((r : Int) + 1)) = bet * ((r : Int) + 1) := wrap64 (by omega) (by omega)
  have hw3 : IntKind.i64.wrap (ante + bet * ((r : Int) + 1)) = ante + bet * ((r : Int) + 1) := wrap64 (by omega) (by omega)
  simp only [hw1, hw2, hw3]
  refine ⟨fun h => by omega, fun _ => ?_⟩
  refine q006.res hG [] rfl Try.call217 ?_ (.inl rfl) ?_
  . simp -implicitDefEqProofs only [aR', go_sem]
  simp -implicitDefEqProofs only [cR', go_sem, q0m0]
end
def rndN : Nat -> Nat
  | 0 => 1
  | d + 1 => 1 + 3 * rndN d
theorem q11g : ∀ d, d + 1 <= rndN d
  | 0 => Nat.le_refl _
  | d + 1 => by have := q11g d; rw [rndN]; omega
def q11b (cs : List Int) (l : List Nd) (z : Int × (Nat × Int)) : List Nd × (Nat × Int) :=
  if 0 <= IntKind.i64.wrap ((q10m cs z.2 3).1 - 1) then (l ++ [⟨2, z.1, (q10m cs (q10m cs z.2 3).2 6).1, IntKind.i64.wrap ((q10m cs z.2 3).1 - 1), []⟩], (q10m cs (q10m cs z.2 3).2 6).2)
  else (l ++ [⟨2, z.1, z.1, IntKind.i64.wrap ((q10m cs z.2 3).1 - 1), []⟩], (q10m cs z.2 3).2)
def q11j (f : List Nd × (Nat × Int) -> List Nd × (Nat × Int)) (s : (List Nd × (Nat × Int)) × List Int) : (List Nd × (Nat × Int)) × List Int := (f (s.1.1, s.1.2), s.2 ++ [(s.1.1.length : Int)])
def q11e (f : List Nd × (Nat × Int) -> List Nd × (Nat × Int)) (s : (List Nd × (Nat × Int)) × List Int) : Nat -> (List Nd × (Nat × Int)) × List Int
  | 0 => s
  | k + 1 => q11j f (q11e f s k)
def q11m (l : List Nd) (i : Nat) (ch : List Int) : List Nd := match l[i]? with | some z => l.set i ⟨z.p, z.a, z.b, z.f, ch⟩ | none => l
def q11a (cs : List Int) (l : List Nd) (paid : Int) (b : Nat × Int) : (List Nd × (Nat × Int)) × List Int := ((l ++ [⟨(q10m cs b 2).1, paid, paid, -1, []⟩], (q10m cs (q10m cs b 2).2 3).2), [])
def q11h (cs : List Int) (f : List Nd × (Nat × Int) -> List Nd × (Nat × Int)) (l : List Nd) (paid : Int) (b : Nat × Int) : List Nd × (Nat × Int) :=
  (q11m (q11e f (q11a cs l paid b) (1 + (q10m cs (q10m cs b 2).2 3).1).toNat).1.1 l.length (q11e f (q11a cs l paid b) (1 + (q10m cs (q10m cs b 2).2 3).1).toNat).2, (q11e f (q11a cs l paid b) (1 + (q10m cs (q10m cs b 2).2 3).1).toNat).1.2)
def rndF (cs : List Int) : Nat -> List Nd × (Nat × Int) -> List Nd × (Nat × Int)
  | 0, s => q11b cs s.1 (q10m cs s.2 6)
  | d + 1, s => if 30 < s.1.length then q11b cs s.1 (q10m cs s.2 6)
    else if 0 < s.1.length then (if (q10m cs (q10m cs s.2 6).2 3).1 = 0 then q11b cs s.1 ((q10m cs s.2 6).1, (q10m cs (q10m cs s.2 6).2 3).2) else q11h cs (rndF cs d) s.1 (q10m cs s.2 6).1 (q10m cs (q10m cs s.2 6).2 3).2)
    else q11h cs (rndF cs d) s.1 (q10m cs s.2 6).1 (q10m cs s.2 6).2
def grown (b : Nat) (l : List Nd) (x : List Nd × (Nat × Int)) : Prop := q0rx (l.length + b) x.1 /\ l.length < x.1.length /\ q0qx x.2
theorem mem8 {l : List Nd} {z : Nd} (h : ∀ x ∈ l, x.ch.length <= 8) (hz : z.ch.length <= 8) : ∀ x ∈ l ++ [z], x.ch.length <= 8 := by
  intro x hx
  rcases List.mem_append.1 hx with hx | hx
  . exact h x hx
  . simp at hx; rw [hx]; exact hz
theorem q11c {cs : List Int} (hl : cs.length <= 100000000000) {l : List Nd} (hs : ∀ x ∈ l, x.ch.length <= 8) {z : Int × (Nat × Int)} (hz : q0qx z.2) : grown 1 l (q11b cs l z) := by
  have h3 := q10o (cs := cs) hl hz 3
  have h6 := q10o (cs := cs) hl h3 6
  unfold q11b
  split
  . exact ⟨⟨by simp, mem8 hs (by simp)⟩, by simp, h6⟩
  . exact ⟨⟨by simp, mem8 hs (by simp)⟩, by simp, h3⟩
theorem q11f {f : List Nd × (Nat × Int) -> List Nd × (Nat × Int)} {b : Nat} {s : (List Nd × (Nat × Int)) × List Int} (hs : ∀ x ∈ s.1.1, x.ch.length <= 8) (hb : q0qx s.1.2) (hc : s.2 = []) (B : Nat) : ∀ k, k <= 3 -> s.1.1.length + k * b <= B -> (∀ m e, q0qx e -> (∀ x ∈ m, x.ch.length <= 8) -> m.length + b <= B -> grown b m (f (m, e))) →
    (q11e f s k).1.1.length <= s.1.1.length + k * b /\ (∀ x ∈ (q11e f s k).1.1, x.ch.length <= 8) /\ s.1.1.length <= (q11e f s k).1.1.length /\ q0qx (q11e f s k).1.2 /\ (q11e f s k).2.length = k
  | 0, _, _, _ => by
    simp only [q11e]
    exact ⟨by omega, hs, Nat.le_refl _, hb, by rw [hc]; rfl⟩
  | k + 1, hk, hB, hf => by
    have e : (k + 1) * b = k * b + b := by rw [Nat.add_mul]; omega
    obtain ⟨h1, h2, h3, h4, h5⟩ := q11f hs hb hc B k (by omega) (by omega) hf
    obtain ⟨g1, g2, g3⟩ := hf (q11e f s k).1.1 (q11e f s k).1.2 h4 h2 (by omega)
    simp only [q11e, q11j]
    refine ⟨?_, g1.2, by have := g2; omega, g3, by simp [h5]⟩
    have := g1.1
    rw [e]; omega
theorem q11n {b : Nat} {l : List Nd} (h : q0rx b l) (i : Nat) {ch : List Int} (hc : ch.length <= 8) : q0rx b (q11m l i ch) /\ (q11m l i ch).length = l.length := by
  unfold q11m
  split
  . exact ⟨q11s h _ _ hc, by rw [List.length_set]⟩
  . exact ⟨h, rfl⟩
theorem q11i {cs : List Int} (hl : cs.length <= 100000000000) {f : List Nd × (Nat × Int) -> List Nd × (Nat × Int)} {b B : Nat} (hf : ∀ m e, q0qx e -> (∀ x ∈ m, x.ch.length <= 8) -> m.length + b <= B -> grown b m (f (m, e))) {l : List Nd} (hs : ∀ x ∈ l, x.ch.length <= 8) {paid : Int} {e : Nat × Int} (he : q0qx e) (hB : l.length + 1 + 3 * b <= B) : grown (1 + 3 * b) l (q11h cs f l paid e) := by
  have h2 := q10o (cs := cs) hl he 2
  have h3 := q10o (cs := cs) hl h2 3
  have hb3 := q10n (cs := cs) (a := (q10m cs e 2).2) (n := 3) (by omega)
  obtain ⟨K, hK⟩ : ∃ K : Nat, (1 + (q10m cs (q10m cs e 2).2 3).1).toNat = K := ⟨_, rfl⟩
  have hK3 : 1 <= K /\ K <= 3 := by omega
  have hKb : K * b <= 3 * b := Nat.mul_le_mul_right _ hK3.2
  obtain ⟨q1, q2, q3, q4, q5⟩ := q11f (s := q11a cs l paid e) (b := b) (f := f) (mem8 hs (by simp)) h3 rfl B K hK3.2 (by simp [q11a]; omega) hf
  have hlen : (q11a cs l paid e).1.1.length = l.length + 1 := by simp [q11a]
  rw [hlen] at q1 q3
  unfold q11h
  rw [hK]
  have hsm : q0rx (l.length + (1 + 3 * b)) (q11e f (q11a cs l paid e) K).1.1 := ⟨by omega, q2⟩
  obtain ⟨s1, s2⟩ := q11n hsm l.length (ch := (q11e f (q11a cs l paid e) K).2) (by omega)
  exact ⟨s1, by show l.length < (q11m _ _ _).length; rw [s2]; omega, q4⟩
theorem q11d {cs : List Int} (hl : cs.length <= 100000000000) : ∀ (d : Nat) (l : List Nd) (a : Nat × Int), q0qx a -> (∀ x ∈ l, x.ch.length <= 8) -> grown (rndN d) l (rndF cs d (l, a))
  | 0, l, a, ha, hs => q11c hl hs (q10o hl ha 6)
  | d + 1, l, a, ha, hs => by
    have h6 := q10o (cs := cs) hl ha 6
    have h3 := q10o (cs := cs) hl h6 3
    have up : ∀ x, grown 1 l x -> grown (rndN (d + 1)) l x := fun x h => ⟨⟨by have := h.1.1; rw [rndN]; omega, h.1.2⟩, h.2⟩
    have hf : ∀ m e, q0qx e -> (∀ x ∈ m, x.ch.length <= 8) -> m.length + rndN d <= l.length + 1 + 3 * rndN d -> grown (rndN d) m (rndF cs d (m, e)) := fun m e he hm _ => q11d hl d m e he hm
    rw [rndF]
    split
    . exact up _ (q11c hl hs h6)
    . split
      . split
        . exact up _ (q11c hl hs h3)
        . exact q11i hl hf hs h3 (Nat.le_refl _)
      . exact q11i hl hf hs h6 (Nat.le_refl _)
section
attribute [-go_sem] q0i5 q0id fldC lenC idxC q0ip
theorem q126 (cs : List Int) (hc : q161 cs) (hl : cs.length <= 100000000000) (B : Nat) (hB0 : B <= 1000) : ∀ (d : Nat) (l : List Nd) (a : Nat × Int), q0qx a -> q0rx B l -> l.length + rndN d <= B →
    Fun Try.prog 199 [.box [bytes cs, .i a.1, .i a.2], q0m0 l] [.own 1000000000, .own 1000000001, .t (.i d)] fun o res => o = [.box [bytes cs, .i (rndF cs d (l, a)).2.1, .i (rndF cs d (l, a)).2.2], .any] /\ res = q0m0 (rndF cs d (l, a)).1 := by
  intro d l a ha hs hb
  refine Fun.le (Q := fun o res => o = [.box [bytes cs, .i (rndF cs d (l, a)).2.1, .i (rndF cs d (l, a)).2.2], .any] /\ (res = q0m0 (rndF cs d (l, a)).1 ∨ ∃ p q f, (rndF cs d (l, a)).1 = l ++ [⟨2, p, q, f, []⟩] /\ res = .arr 5 (chunk q0lv l ++ [.i 2, .i p, .i q, .i f, .v (.slice none 0 0)]))) ?_ ?_
  rotate_left
  . rintro o res ⟨rfl, rfl | ⟨p, q, f, e, rfl⟩⟩
    . exact ⟨_, .refl _, rfl, rfl⟩
    . refine ⟨q0m0 (rndF cs d (l, a)).1, ?_, rfl, rfl⟩
      rw [e, q0m0, q067]
      exact LeL.arr (LeL.append (.refl _) (LeL.cons (.refl _) (LeL.cons (.refl _) (LeL.cons (.refl _) (LeL.cons (.refl _) (LeL.cons (.nilArr 1) (.refl _)))))))
  have hnl : (chunk q0lv l).length / 5 = l.length := q06a q0lw (by decide) l
  have hnl5 : (chunk q0lv l).length = l.length * 5 := q06d q0lw l
  have hl1 := hs.1
  match d, hb with
  | 0, hb =>
    refine q0zs (by simp) ?_
    simp -implicitDefEqProofs only [eR', go_sem, q0yn, q0m0, hnl, hnl5, (show (((0 : Nat) : Int) == 0) = true from rfl)]
    refine q006.ref (q10p cs hc hl a ha 6 (by omega)) [1000000000] [] rfl Try.call126 (by simp) ?_ (by simp) ?_ (.inl rfl) ?_
    . simp -implicitDefEqProofs only [sR', Nat.reduceEqDiff, ↓reduceIte]
    . simp -implicitDefEqProofs only [aR', go_sem]
    simp -implicitDefEqProofs only [cR', go_sem]
    have hs2 := q10o (cs := cs) hl ha 6
    generalize hz : q10m cs a 6 = z at hs2 ⊢
    obtain ⟨paid, b⟩ := z
    simp only [] at hs2 ⊢
    refine ⟨fun h => absurd h (by decide), fun _ => ?_⟩
    refine q006.ref (q10p cs hc hl b hs2 3 (by omega)) [1000000000] [] rfl Try.call126 (by simp) ?_ (by simp) ?_ (.inl rfl) ?_
    . simp -implicitDefEqProofs only [sR', Nat.reduceEqDiff, ↓reduceIte]
    . simp -implicitDefEqProofs only [aR', go_sem]
    simp -implicitDefEqProofs only [cR', go_sem]
    have hs3 := q10o (cs := cs) hl hs2 3
    generalize hz3 : q10m cs b 3 = z at hs3 ⊢
    obtain ⟨f, b3⟩ := z
    simp only [] at hs3 ⊢
    have hF := (show rndF cs 0 (l, a) = q11b cs l (paid, b) by rw [rndF, hz])
    refine ⟨fun h => ?_, fun h => ?_⟩
    . refine q006.ref (q10p cs hc hl b3 hs3 6 (by omega)) [1000000000] [] rfl Try.call126 (by simp) ?_ (by simp) ?_ (.inl rfl) ?_
      . simp -implicitDefEqProofs only [sR', Nat.reduceEqDiff, ↓reduceIte]
      . simp -implicitDefEqProofs only [aR', go_sem]
      simp -implicitDefEqProofs only [cR', go_sem]
      have hE : q11b cs l (paid, b) = (l ++ [⟨2, paid, (q10m cs b3 6).1, IntKind.i64.wrap (f - 1), []⟩], (q10m cs b3 6).2) := by
        simp only [q11b, hz3]; exact if_pos h
      rw [hF, hE]
      exact ⟨by omega, rfl, .inr ⟨paid, _, _, rfl, rfl⟩⟩
    . have hE : q11b cs l (paid, b) = (l ++ [⟨2, paid, paid, IntKind.i64.wrap (f - 1), []⟩], b3) := by
        simp only [q11b, hz3]; exact if_neg h
      rw [hF, hE]
      exact ⟨by omega, rfl, .inr ⟨paid, _, _, rfl, rfl⟩⟩
  | d + 1, hb =>
    have hB := hb
    have hdg := q11g d
    simp only [rndN] at hB
    have hd0 : (((d + 1 : Nat) : Int) == 0) = false := by simp; omega
    refine q0zs (by simp) ?_
    simp -implicitDefEqProofs only [eR', go_sem, q0yn, q0m0, hnl, hnl5, hd0]
    refine q006.ref (q10p cs hc hl a ha 6 (by omega)) [1000000000] [] rfl Try.call126 (by simp) ?_ (by simp) ?_ (.inl rfl) ?_
    . simp -implicitDefEqProofs only [sR', Nat.reduceEqDiff, ↓reduceIte]
    . simp -implicitDefEqProofs only [aR', go_sem]
    simp -implicitDefEqProofs only [cR', go_sem, hd0, hnl]
    have hs2 := q10o (cs := cs) hl ha 6
    generalize hz : q10m cs a 6 = z at hs2 ⊢
    obtain ⟨paid, b⟩ := z
    simp only [] at hs2 ⊢
    refine ⟨fun h30 => ⟨fun h0 => ?_, fun h0 => ?_⟩, fun h30 => ?_⟩
    . refine q006.ref (q10p cs hc hl b hs2 3 (by omega)) [1000000000] [] rfl Try.call126 (by simp) ?_ (by simp) ?_ (.inl rfl) ?_
      . simp -implicitDefEqProofs only [sR', Nat.reduceEqDiff, ↓reduceIte]
      . simp -implicitDefEqProofs only [aR', go_sem]
      simp -implicitDefEqProofs only [cR', go_sem]
      have hsd := q10o (cs := cs) hl hs2 3
      generalize hzd : q10m cs b 3 = z at hsd ⊢
      obtain ⟨k, bd⟩ := z
      simp only [] at hsd ⊢
      refine ⟨fun hk => ?_, fun hk => ?_⟩
      . refine q006.ref (q10p cs hc hl bd hsd 3 (by omega)) [1000000000] [] rfl Try.call126 (by simp) ?_ (by simp) ?_ (.inl rfl) ?_
        . simp -implicitDefEqProofs only [sR', Nat.reduceEqDiff, ↓reduceIte]
        . simp -implicitDefEqProofs only [aR', go_sem]
        simp -implicitDefEqProofs only [cR', go_sem]
        have hs3 := q10o (cs := cs) hl hsd 3
        generalize hz3 : q10m cs bd 3 = z at hs3 ⊢
        obtain ⟨f, b3⟩ := z
        simp only [] at hs3 ⊢
        have hF := (show rndF cs (d + 1) (l, a) = q11b cs l (paid, bd) by rw [rndF, if_neg (show ¬ 30 < l.length by omega), if_pos (show 0 < l.length by omega), hz]; simp only [hzd]; exact if_pos (by simpa using hk))
        refine ⟨fun h => ?_, fun h => ?_⟩
        . refine q006.ref (q10p cs hc hl b3 hs3 6 (by omega)) [1000000000] [] rfl Try.call126 (by simp) ?_ (by simp) ?_ (.inl rfl) ?_
          . simp -implicitDefEqProofs only [sR', Nat.reduceEqDiff, ↓reduceIte]
          . simp -implicitDefEqProofs only [aR', go_sem]
          simp -implicitDefEqProofs only [cR', go_sem]
          have hE : q11b cs l (paid, bd) = (l ++ [⟨2, paid, (q10m cs b3 6).1, IntKind.i64.wrap (f - 1), []⟩], (q10m cs b3 6).2) := by
            simp only [q11b, hz3]; exact if_pos h
          rw [hF, hE]
          exact ⟨by omega, rfl, .inr ⟨paid, _, _, rfl, rfl⟩⟩
        . have hE : q11b cs l (paid, bd) = (l ++ [⟨2, paid, paid, IntKind.i64.wrap (f - 1), []⟩], b3) := by
            simp only [q11b, hz3]; exact if_neg h
          rw [hF, hE]
          exact ⟨by omega, rfl, .inr ⟨paid, _, _, rfl, rfl⟩⟩
      . refine q006.ref (q10p cs hc hl bd hsd 2 (by omega)) [1000000000] [] rfl Try.call126 (by simp) ?_ (by simp) ?_ (.inl rfl) ?_
        . simp -implicitDefEqProofs only [sR', Nat.reduceEqDiff, ↓reduceIte]
        . simp -implicitDefEqProofs only [aR', go_sem]
        simp -implicitDefEqProofs only [cR', go_sem, List.length_append, List.length_cons, List.length_nil, hnl5]
        have hs3 := q10o (cs := cs) hl hsd 2
        have hb4 := q10n (cs := cs) (a := (q10m cs bd 2).2) (n := 3) (by omega)
        have hs4 := q10o (cs := cs) hl hs3 3
        have hF := (show rndF cs (d + 1) (l, a) = q11h cs (rndF cs d) l paid bd by rw [rndF, if_neg (show ¬ 30 < l.length by omega), if_pos (show 0 < l.length by omega), hz]; simp only [hzd]; exact if_neg (by simpa using hk))
        obtain ⟨K, hK⟩ : ∃ K : Nat, (1 + (q10m cs (q10m cs bd 2).2 3).1).toNat = K := ⟨_, rfl⟩
        have hKi : 1 + (q10m cs (q10m cs bd 2).2 3).1 = (K : Int) := by omega
        have hK3 : 1 <= K /\ K <= 3 := by omega
        have hnode : q11h cs (rndF cs d) l paid bd = (q11m (q11e (rndF cs d) (q11a cs l paid bd) K).1.1 l.length (q11e (rndF cs d) (q11a cs l paid bd) K).2, (q11e (rndF cs d) (q11a cs l paid bd) K).1.2) := by rw [q11h, hK]
        have hloop := fun i (hi : i <= K) => q11f (s := q11a cs l paid bd) (b := rndN d) (f := rndF cs d) (mem8 hs.2 (by simp)) hs4 rfl B i (by omega) (by have := Nat.mul_le_mul_right (rndN d) (show i <= 3 by omega); simp [q11a]; omega) (fun m e he hm _ => q11d hl d m e he hm)
        refine ⟨by omega, ?_⟩
        refine q006.weak (Weak.le 56 (t' := q0m0 (l ++ [⟨(q10m cs bd 2).1, paid, paid, -1, []⟩])) rfl ?_ rfl) ?_
        . rw [q0m0, q067]
          exact LeL.arr (LeL.append (.refl _) (LeL.cons (.refl _) (LeL.cons (.refl _) (LeL.cons (.refl _) (LeL.cons (.refl _) (LeL.cons (.nilArr 1) (.refl _)))))))
        refine q006.ref (q10p cs hc hl (q10m cs bd 2).2 hs3 3 (by omega)) [1000000000] [] rfl Try.call126 (by simp) ?_ (by simp) ?_ (.inl rfl) ?_
        . simp -implicitDefEqProofs only [sR', Nat.reduceEqDiff, ↓reduceIte]
        . simp -implicitDefEqProofs only [aR', go_sem]
        simp -implicitDefEqProofs only [cR', go_sem]
        have hwq : IntKind.i64.wrap (1 + (q10m cs (q10m cs bd 2).2 3).1) = (K : Int) := by rw [wrap64 (by omega) (by omega)]; exact hKi
        have hwd : IntKind.i64.wrap (((d + 1 : Nat) : Int) - 1) = (d : Int) := by rw [wrap64 (by omega) (by omega)]; omega
        have hL0 : q11e (rndF cs d) (q11a cs l paid bd) 0 = ((l ++ [⟨(q10m cs bd 2).1, paid, paid, -1, []⟩], (q10m cs (q10m cs bd 2).2 3).2), []) := rfl
        have hLs : ∀ i, q11e (rndF cs d) (q11a cs l paid bd) (i + 1) = q11j (rndF cs d) (q11e (rndF cs d) (q11a cs l paid bd) i) := fun i => rfl
        have hl0 : (q11a cs l paid bd).1.1.length = l.length + 1 := by simp [q11a]
        generalize hLL : q11e (rndF cs d) (q11a cs l paid bd) = L at hL0 hLs hnode hloop
        refine SemC.loopR (σ := Nat) (fun i => St.ofD [(0, .own 1000000000), (1, .own 196), (2, .t (.i ((d + 1 : Nat) : Int))), (7, .t (.i l.length)), (10, .own 197), (11, .t (.i ((K : Int) - i)))] [(1000000000, .box [bytes cs, .i (L i).1.2.1, .i (L i).1.2.2]), (196, q0m0 (L i).1.1), (197, intsO (L i).2)] 1000000001) (fun i => i <= K) (fun i => 3 - i) 0 (Weak.ofD _ _ _ [some 1000000000, some 56, some 57] (by simp) (by simp) rfl ?_ ?_) (by omega) fun i hi R hn' hr he => ?_
        . simp -implicitDefEqProofs only [wR', Nat.reduceBEq, Nat.reduceEqDiff, ↓reduceIte, hwq, Int.sub_zero, Int.natCast_zero, Int.cast_ofNat_Int, show l.length * 5 / 5 = l.length by omega]
        . rw [hL0]; exact ⟨⟨_, rfl, .refl _⟩, rfl, ⟨_, rfl, .refl _⟩, rfl, ⟨_, rfl, .refl _⟩, rfl, trivial⟩
        obtain ⟨i1, i2, i3, i4, i5⟩ := hloop i hi
        rw [hl0] at i1 i3
        have hi3 := Nat.mul_le_mul_right (rndN d) (show i <= 3 by omega)
        have hml : (chunk q0lv (L i).1.1).length / 5 = (L i).1.1.length := q06a q0lw (by decide) _
        have hml5 : (chunk q0lv (L i).1.1).length = (L i).1.1.length * 5 := q06d q0lw _
        rcases Nat.lt_or_ge i K with h9 | h9
        . simp -implicitDefEqProofs only [eR', go_sem, q0m0, intsO, hml, hml5, decide_eq_true (show 0 < (K : Int) - (i : Int) by omega), List.length_map]
          have hi4 := Nat.mul_le_mul_right (rndN d) (show i + 1 <= 3 by omega)
          rw [Nat.add_mul, Nat.one_mul] at hi4
          refine ⟨by omega, ?_⟩
          simp only [hwd]
          have hrec := q126 cs hc hl B hB0 d (L i).1.1 (L i).1.2 i4 ⟨by omega, i2⟩ (by omega)
          simp only [q0m0] at hrec
          refine q006.ref hrec [1000000000, 196] [] rfl Try.call199 (by simp) ?_ (by simp) ?_ (.inl rfl) ?_
          . simp -implicitDefEqProofs only [sR', Nat.reduceEqDiff, ↓reduceIte]
          . simp -implicitDefEqProofs only [aR', go_sem]
          simp -implicitDefEqProofs only [cR', go_sem]
          refine hn' _ (i + 1) (Weak.ofD _ _ _ [some 1000000000, some 74, some 69] (by simp) (by simp) rfl ?_ ?_) (by omega) (by omega)
          . simp -implicitDefEqProofs only [wR', Nat.reduceBEq, Nat.reduceEqDiff, ↓reduceIte, show IntKind.i64.wrap ((K : Int) - (i : Int) - 1) = (K : Int) - ((i + 1 : Nat) : Int) by rw [wrap64 (by omega) (by omega)]; omega]
          . rw [hLs]
            refine ⟨⟨_, rfl, .refl _⟩, rfl, ⟨_, rfl, .refl _⟩, rfl, ⟨_, rfl, ?_⟩, rfl, trivial⟩
            simp only [q11j, intsO, List.map_append, List.map_cons, List.map_nil, show (L i).1.1.length * 5 / 5 = (L i).1.1.length by omega]; exact .refl _
        . simp -implicitDefEqProofs only [eR', go_sem, q0m0, intsO, hml, hml5, decide_eq_false (show ¬ 0 < (K : Int) - (i : Int) by omega), List.length_map]
          refine he _ _ ?_
          simp -implicitDefEqProofs only [eR', go_sem, q0m0, intsO, hml, hml5]
          obtain rfl : i = K := by omega
          obtain ⟨z, hz⟩ : ∃ z, (L i).1.1[l.length]? = some z := ⟨_, List.getElem?_eq_getElem (by omega)⟩
          refine ⟨by omega, by omega, by omega, ?_⟩
          rw [hF, hnode]
          refine ⟨rfl, .inl ?_⟩
          simp only [q11m, hz]
          rw [← q0yv (L i).1.1 l.length z _ hz]; rfl
    . refine q006.ref (q10p cs hc hl b hs2 2 (by omega)) [1000000000] [] rfl Try.call126 (by simp) ?_ (by simp) ?_ (.inl rfl) ?_
      . simp -implicitDefEqProofs only [sR', Nat.reduceEqDiff, ↓reduceIte]
      . simp -implicitDefEqProofs only [aR', go_sem]
      simp -implicitDefEqProofs only [cR', go_sem, List.length_append, List.length_cons, List.length_nil, hnl5]
      have hs3 := q10o (cs := cs) hl hs2 2
      have hb4 := q10n (cs := cs) (a := (q10m cs b 2).2) (n := 3) (by omega)
      have hs4 := q10o (cs := cs) hl hs3 3
      have hF := (show rndF cs (d + 1) (l, a) = q11h cs (rndF cs d) l paid b by rw [rndF, if_neg (show ¬ 30 < l.length by omega), if_neg (show ¬ 0 < l.length by omega), hz])
      obtain ⟨K, hK⟩ : ∃ K : Nat, (1 + (q10m cs (q10m cs b 2).2 3).1).toNat = K := ⟨_, rfl⟩
      have hKi : 1 + (q10m cs (q10m cs b 2).2 3).1 = (K : Int) := by omega
      have hK3 : 1 <= K /\ K <= 3 := by omega
      have hnode : q11h cs (rndF cs d) l paid b = (q11m (q11e (rndF cs d) (q11a cs l paid b) K).1.1 l.length (q11e (rndF cs d) (q11a cs l paid b) K).2, (q11e (rndF cs d) (q11a cs l paid b) K).1.2) := by rw [q11h, hK]
      have hloop := fun i (hi : i <= K) => q11f (s := q11a cs l paid b) (b := rndN d) (f := rndF cs d) (mem8 hs.2 (by simp)) hs4 rfl B i (by omega) (by have := Nat.mul_le_mul_right (rndN d) (show i <= 3 by omega); simp [q11a]; omega) (fun m e he hm _ => q11d hl d m e he hm)
      refine ⟨by omega, ?_⟩
      refine q006.weak (Weak.le 56 (t' := q0m0 (l ++ [⟨(q10m cs b 2).1, paid, paid, -1, []⟩])) rfl ?_ rfl) ?_
      . rw [q0m0, q067]
        exact LeL.arr (LeL.append (.refl _) (LeL.cons (.refl _) (LeL.cons (.refl _) (LeL.cons (.refl _) (LeL.cons (.refl _) (LeL.cons (.nilArr 1) (.refl _)))))))
      refine q006.ref (q10p cs hc hl (q10m cs b 2).2 hs3 3 (by omega)) [1000000000] [] rfl Try.call126 (by simp) ?_ (by simp) ?_ (.inl rfl) ?_
      . simp -implicitDefEqProofs only [sR', Nat.reduceEqDiff, ↓reduceIte]
      . simp -implicitDefEqProofs only [aR', go_sem]
      simp -implicitDefEqProofs only [cR', go_sem]
      have hwq : IntKind.i64.wrap (1 + (q10m cs (q10m cs b 2).2 3).1) = (K : Int) := by rw [wrap64 (by omega) (by omega)]; exact hKi
      have hwd : IntKind.i64.wrap (((d + 1 : Nat) : Int) - 1) = (d : Int) := by rw [wrap64 (by omega) (by omega)]; omega
      have hL0 : q11e (rndF cs d) (q11a cs l paid b) 0 = ((l ++ [⟨(q10m cs b 2).1, paid, paid, -1, []⟩], (q10m cs (q10m cs b 2).2 3).2), []) := rfl
      have hLs : ∀ i, q11e (rndF cs d) (q11a cs l paid b) (i + 1) = q11j (rndF cs d) (q11e (rndF cs d) (q11a cs l paid b) i) := fun i => rfl
      have hl0 : (q11a cs l paid b).1.1.length = l.length + 1 := by simp [q11a]
      generalize hLL : q11e (rndF cs d) (q11a cs l paid b) = L at hL0 hLs hnode hloop
      refine SemC.loopR (σ := Nat) (fun i => St.ofD [(0, .own 1000000000), (1, .own 196), (2, .t (.i ((d + 1 : Nat) : Int))), (7, .t (.i l.length)), (10, .own 197), (11, .t (.i ((K : Int) - i)))] [(1000000000, .box [bytes cs, .i (L i).1.2.1, .i (L i).1.2.2]), (196, q0m0 (L i).1.1), (197, intsO (L i).2)] 1000000001) (fun i => i <= K) (fun i => 3 - i) 0 (Weak.ofD _ _ _ [some 1000000000, some 56, some 57] (by simp) (by simp) rfl ?_ ?_) (by omega) fun i hi R hn' hr he => ?_
      . simp -implicitDefEqProofs only [wR', Nat.reduceBEq, Nat.reduceEqDiff, ↓reduceIte, hwq, Int.sub_zero, Int.natCast_zero, Int.cast_ofNat_Int, show l.length * 5 / 5 = l.length by omega]
      . rw [hL0]; exact ⟨⟨_, rfl, .refl _⟩, rfl, ⟨_, rfl, .refl _⟩, rfl, ⟨_, rfl, .refl _⟩, rfl, trivial⟩
      obtain ⟨i1, i2, i3, i4, i5⟩ := hloop i hi
      rw [hl0] at i1 i3
      have hi3 := Nat.mul_le_mul_right (rndN d) (show i <= 3 by omega)
      have hml : (chunk q0lv (L i).1.1).length / 5 = (L i).1.1.length := q06a q0lw (by decide) _
      have hml5 : (chunk q0lv (L i).1.1).length = (L i).1.1.length * 5 := q06d q0lw _
      rcases Nat.lt_or_ge i K with h9 | h9
      . simp -implicitDefEqProofs only [eR', go_sem, q0m0, intsO, hml, hml5, decide_eq_true (show 0 < (K : Int) - (i : Int) by omega), List.length_map]
        have hi4 := Nat.mul_le_mul_right (rndN d) (show i + 1 <= 3 by omega)
        rw [Nat.add_mul, Nat.one_mul] at hi4
        refine ⟨by omega, ?_⟩
        simp only [hwd]
        have hrec := q126 cs hc hl B hB0 d (L i).1.1 (L i).1.2 i4 ⟨by omega, i2⟩ (by omega)
        simp only [q0m0] at hrec
        refine q006.ref hrec [1000000000, 196] [] rfl Try.call199 (by simp) ?_ (by simp) ?_ (.inl rfl) ?_
        . simp -implicitDefEqProofs only [sR', Nat.reduceEqDiff, ↓reduceIte]
        . simp -implicitDefEqProofs only [aR', go_sem]
        simp -implicitDefEqProofs only [cR', go_sem]
        refine hn' _ (i + 1) (Weak.ofD _ _ _ [some 1000000000, some 74, some 69] (by simp) (by simp) rfl ?_ ?_) (by omega) (by omega)
        . simp -implicitDefEqProofs only [wR', Nat.reduceBEq, Nat.reduceEqDiff, ↓reduceIte, show IntKind.i64.wrap ((K : Int) - (i : Int) - 1) = (K : Int) - ((i + 1 : Nat) : Int) by rw [wrap64 (by omega) (by omega)]; omega]
        . rw [hLs]
          refine ⟨⟨_, rfl, .refl _⟩, rfl, ⟨_, rfl, .refl _⟩, rfl, ⟨_, rfl, ?_⟩, rfl, trivial⟩
          simp only [q11j, intsO, List.map_append, List.map_cons, List.map_nil, show (L i).1.1.length * 5 / 5 = (L i).1.1.length by omega]; exact .refl _
      . simp -implicitDefEqProofs only [eR', go_sem, q0m0, intsO, hml, hml5, decide_eq_false (show ¬ 0 < (K : Int) - (i : Int) by omega), List.length_map]
        refine he _ _ ?_
        simp -implicitDefEqProofs only [eR', go_sem, q0m0, intsO, hml, hml5]
        obtain rfl : i = K := by omega
        obtain ⟨z, hz⟩ : ∃ z, (L i).1.1[l.length]? = some z := ⟨_, List.getElem?_eq_getElem (by omega)⟩
        refine ⟨by omega, by omega, by omega, ?_⟩
        rw [hF, hnode]
        refine ⟨rfl, .inl ?_⟩
        simp only [q11m, hz]
        rw [← q0yv (L i).1.1 l.length z _ hz]; rfl
    . refine q006.ref (q10p cs hc hl b hs2 3 (by omega)) [1000000000] [] rfl Try.call126 (by simp) ?_ (by simp) ?_ (.inl rfl) ?_
      . simp -implicitDefEqProofs only [sR', Nat.reduceEqDiff, ↓reduceIte]
      . simp -implicitDefEqProofs only [aR', go_sem]
      simp -implicitDefEqProofs only [cR', go_sem]
      have hs3 := q10o (cs := cs) hl hs2 3
      generalize hz3 : q10m cs b 3 = z at hs3 ⊢
      obtain ⟨f, b3⟩ := z
      simp only [] at hs3 ⊢
      have hF := (show rndF cs (d + 1) (l, a) = q11b cs l (paid, b) by rw [rndF, if_pos (show 30 < l.length by omega), hz])
      refine ⟨fun h => ?_, fun h => ?_⟩
      . refine q006.ref (q10p cs hc hl b3 hs3 6 (by omega)) [1000000000] [] rfl Try.call126 (by simp) ?_ (by simp) ?_ (.inl rfl) ?_
        . simp -implicitDefEqProofs only [sR', Nat.reduceEqDiff, ↓reduceIte]
        . simp -implicitDefEqProofs only [aR', go_sem]
        simp -implicitDefEqProofs only [cR', go_sem]
        have hE : q11b cs l (paid, b) = (l ++ [⟨2, paid, (q10m cs b3 6).1, IntKind.i64.wrap (f - 1), []⟩], (q10m cs b3 6).2) := by
          simp only [q11b, hz3]; exact if_pos h
        rw [hF, hE]
        exact ⟨by omega, rfl, .inr ⟨paid, _, _, rfl, rfl⟩⟩
      . have hE : q11b cs l (paid, b) = (l ++ [⟨2, paid, paid, IntKind.i64.wrap (f - 1), []⟩], b3) := by
          simp only [q11b, hz3]; exact if_neg h
        rw [hF, hE]
        exact ⟨by omega, rfl, .inr ⟨paid, _, _, rfl, rfl⟩⟩
end

def q0yp : CC :=
 (.seq (.reg [.o (.alloc 2 [.v (.slice none 0 0), .v (.slice none 0 0), .v (.slice none 0 0)])])
 ((.seq (.reg [mv 5 0,.o (.call (some 6) (cf 222) [(sl 5)]),.o (.alloc 3 [.v (.slice none 0 0), .v (.slice none 0 0), .v (.slice none 0 0)]),.o (.store 3 (sl 3) (sl 6))])
 ((.seq (.reg [mv 7 0,fl 8 1 3,l1 9 8,.o (.lenS 10 (sl 9)),.o (.call (some 11) (cf 126) [(sl 7), (sl 10)]),mv 4 11])
 ((.seq (.seq (.reg [mv 12 0,.o (.call (some 13) (cf 126) [(sl 12), (ci 24)])])
 ((.block 0 (.seq (.reg [.o (.bin 15 .eql (sl 13) (ci 0)),mv 14 15])
 ((.cond (sl 14) (.weak (.draw [22] [(.r false [1000000000, 23, 22], fl 16 1 3),(.r false [1000000000, 23, 22], l1 17 16),(.r false [1000000000, 23, 22], mv 18 4),(.r false [1000000000, 23, 22], ix 19 17 18),(.r false [1000000000, 23, 22], l1 20 19),kr (mv 21 0),(kN, .o (.bslice 22 1 4 [(0, (ci (-1))), (1, (ci 0)), (2, (ci 9)), (3, (ci 10))])),(.h (some [1000000000, 22]) [], .o (.call (some 23) (cf 147) [(sl 21), (sl 22)])),kr (.o (.idx 24 1 (sl 20) (ci 0))),(kH, .o (.store 1 (sl 24) (sl 23)))]))
 (.seq (.reg [.o (.bin 26 .eql (sl 13) (ci 1)),mv 25 26])
 ((.cond (sl 25) (.weak (.draw [33] [(.r false [1000000000, 34, 33], fl 27 2 3),(.r false [1000000000, 34, 33], l1 28 27),(.r false [1000000000, 34, 33], mv 29 4),(.r false [1000000000, 34, 33], ix 30 28 29),(.r false [1000000000, 34, 33], l1 31 30),kr (mv 32 0),(kN, .o (.bslice 33 1 2 [(0, (ci (-2))), (1, (ci 2))])),(.h (some [1000000000, 33]) [], .o (.call (some 34) (cf 147) [(sl 32), (sl 33)])),kr (.o (.idx 35 1 (sl 31) (ci 0))),(kH, .o (.store 1 (sl 35) (sl 34)))]))
 (.seq (.reg [.o (.bin 37 .eql (sl 13) (ci 2)),mv 36 37])
 ((.cond (sl 36) (.seq (.weak (.draw [] [kr (fl 38 0 3),kr (ln 39 1 38),kr (fl 40 1 3),kr (l1 41 40),kr (fl 42 2 3),kr (l1 43 42),kr (.o (.slc 44 1 (sl 43) (some (ci 1)) none)),kr (.o (.build 45 [.v (.slice none 0 0), .v (.slice none 0 0), .v (.slice none 0 0)] [(0, 1), (1, 1), (2, 1)] [(0, (sl 39)), (1, (sl 41)), (2, (sl 44))])),(kH, .o (.store 3 (sl 2) (sl 45)))]))
 (.ret))
 (.seq (.reg [.o (.bin 47 .eql (sl 13) (ci 3)),mv 46 47])
 ((.cond (sl 46) (.seq (.weak (.draw [] [kr (mv 48 0),(.h (some [1000000000]) [], .o (.call (some 49) (cf 223) [(sl 48)])),(.r false [1000000000, 49], fl 50 1 3),(.r false [1000000000, 49], l1 51 50),(.r false [1000000000, 49], fl 52 2 3),(.r false [1000000000, 49], l1 53 52),kr (.o (.build 54 [.v (.slice none 0 0), .v (.slice none 0 0), .v (.slice none 0 0)] [(0, 1), (1, 1), (2, 1)] [(0, (sl 49)), (1, (sl 51)), (2, (sl 53))])),(kH, .o (.store 3 (sl 2) (sl 54)))]))
 (.ret))
 .skip)))))))))))))))
 ((.seq (.weak (.reg [ln 55 3 3,.o (.store 3 (sl 2) (sl 55))]))
 (.ret))))))))))
theorem q0zu {rin args Q} (ha : args.length <= 56) (h : fW 56 q0yp [.cell 2 35] rin args Q) : Fun Try.prog 190 rin args Q :=
 Fun.of (H := ⟨[(5, 0, .r false [1000000000, 23, 22]), (5, 1, .r false [1000000000, 23, 22]), (5, 2, .r false [1000000000, 23, 22]), (5, 3, .r false [1000000000, 23, 22]), (5, 4, .r false [1000000000, 23, 22]), (5, 7, .h (some [1000000000, 22]) []), (7, 0, .r false [1000000000, 34, 33]), (7, 1, .r false [1000000000, 34, 33]), (7, 2, .r false [1000000000, 34, 33]), (7, 3, .r false [1000000000, 34, 33]), (7, 4, .r false [1000000000, 34, 33]), (7, 7, .h (some [1000000000, 33]) []), (11, 2, .r false [1000000000, 49]), (11, 3, .r false [1000000000, 49]), (11, 4, .r false [1000000000, 49]), (11, 5, .r false [1000000000, 49]), (11, 1, .h (some [1000000000]) [])], [5, 7, 9, 11, 12]⟩) Try.func190 rfl rfl rfl (by kernel_rfl) ha (by decide) h

def q0ys : CC :=
 (.seq (.reg [.o (.alloc 2 [.v (.slice none 0 0), .v (.slice none 0 0), .v (.slice none 0 0)])])
 ((.seq (.seq (.reg [mv 7 0,.o (.call (some 8) (cf 126) [(sl 7), (ci 6)])])
 ((.block 0 (.seq (.reg [.o (.bin 10 .eql (sl 8) (ci 0)),mv 9 10])
 ((.cond (sl 9) (.seq (.reg [.o (.call (some 11) (cf 127) []),.o (.store 3 (sl 2) (sl 11))])
 (.ret))
 (.seq (.reg [.o (.bin 13 .eql (sl 8) (ci 1)),mv 12 13])
 ((.cond (sl 12) (.seq (.reg [mv 14 0,.o (.call (some 15) (cf 227) [(sl 14)]),mv 16 0,.o (.call (some 17) (cf 126) [(sl 16), (ci 2)]),.o (.bin 18 .add (ci 2) (sl 17)),.o (.call (some 19) (cf 185) [(sl 15), (sl 18), (cb true)]),.o (.store 3 (sl 2) (sl 19))])
 (.ret))
 .skip)))))))))
 ((.seq (.reg [mv 20 0,.o (.call (some 21) (cf 126) [(sl 20), (ci 3)]),.o (.bin 22 .add (ci 1) (sl 21)),mv 3 22])
 ((.seq (.reg [mv 23 0,.o (.call (some 24) (cf 227) [(sl 23)]),mv 25 3,.o (.call (some 26) (cf 185) [(sl 24), (sl 25), (cb true)]),.o (.alloc 4 [.v (.slice none 0 0), .v (.slice none 0 0), .v (.slice none 0 0)]),.o (.store 3 (sl 4) (sl 26))])
 ((.seq (.seq (.reg [.o (.move 5 (ci 0))])
 ((.block 1 (.loop (.seq (.seq (.reg [mv 27 5,mv 28 3,.o (.bin 29 .lss (sl 27) (sl 28))])
 ((.cond (sl 29) .skip
 (.exit 1))))
 ((.seq (.block 2 (.seq (.reg [.o (.move 6 (ci 0))])
 ((.block 3 (.loop (.seq (.seq (.reg [mv 32 6,mv 33 3,.o (.bin 34 .lss (sl 32) (sl 33))])
 ((.cond (sl 34) .skip
 (.exit 3))))
 ((.seq (.block 4 (.seq (.weak (.draw [] [(.r false [1000000000, 44], fl 37 1 4),(.r false [1000000000, 44], l1 38 37),(.r false [1000000000, 44], mv 39 5),(.r false [1000000000, 44], ix 40 38 39),(.r false [1000000000, 44], l1 41 40),(.r false [1000000000, 44], mv 42 6),kr (mv 43 0),(.h (some [1000000000]) [], .o (.call (some 44) (cf 126) [(sl 43), (ci 4)])),kr (ix 45 41 42),(kH, .o (.store 1 (sl 45) (sl 44)))]))
 ((.seq (.reg [mv 46 0,.o (.call (some 47) (cf 126) [(sl 46), (ci 4)]),.o (.bin 48 .eql (sl 47) (ci 0))])
 ((.cond (sl 48) (.weak (.draw [] [(.r false [1000000000, 56], fl 49 2 4),(.r false [1000000000, 56], l1 50 49),(.r false [1000000000, 56], mv 51 5),(.r false [1000000000, 56], ix 52 50 51),(.r false [1000000000, 56], l1 53 52),(.r false [1000000000, 56], mv 54 6),kr (mv 55 0),(.h (some [1000000000]) [], .o (.call (some 56) (cf 126) [(sl 55), (ci 3)])),kr (.o (.bin 57 .sub (sl 56) (ci 1))),kr (ix 58 53 54),(kH, .o (.store 1 (sl 58) (sl 57)))]))
 .skip))))))
 ((.reg [mv 35 6,.o (.bin 36 .add (sl 35) (ci 1)),mv 6 36]))))))))))
 ((.reg [mv 30 5,.o (.bin 31 .add (sl 30) (ci 1)),mv 5 31])))))))))
 ((.seq (.weak (.draw [] [kr (fl 59 1 4),kr (l1 60 59),kr (.o (.idx 61 1 (sl 60) (ci 0))),kr (l1 62 61),kr (fl 63 1 4),kr (l1 64 63),kr (.o (.idx 65 1 (sl 64) (ci 0))),kr (l1 66 65),kr (.o (.idx 67 1 (sl 66) (ci 0))),kr (l1 68 67),kr (.o (.mm 69 true (ci 1) (sl 68))),kr (.o (.idx 70 1 (sl 62) (ci 0))),(kH, .o (.store 1 (sl 70) (sl 69)))]))
 ((.seq (.weak (.reg [ln 71 3 4,.o (.store 3 (sl 2) (sl 71))]))
 (.ret))))))))))))))
theorem q0zx {rin args Q} (ha : args.length <= 72) (h : fW 72 q0ys [.cell 2 35] rin args Q) : Fun Try.prog 222 rin args Q :=
 Fun.of (H := ⟨[(14, 0, .r false [1000000000, 44]), (14, 1, .r false [1000000000, 44]), (14, 2, .r false [1000000000, 44]), (14, 3, .r false [1000000000, 44]), (14, 4, .r false [1000000000, 44]), (14, 5, .r false [1000000000, 44]), (14, 7, .h (some [1000000000]) []), (16, 0, .r false [1000000000, 56]), (16, 1, .r false [1000000000, 56]), (16, 2, .r false [1000000000, 56]), (16, 3, .r false [1000000000, 56]), (16, 4, .r false [1000000000, 56]), (16, 5, .r false [1000000000, 56]), (16, 7, .h (some [1000000000]) [])], [14, 16, 17, 18]⟩) Try.func222 rfl rfl rfl (by kernel_rfl) ha (by decide) h

def q0yl : CC :=
 (.seq (.reg [.o (.alloc 2 [.v (.slice none 0 0)])])
 ((.seq (.reg [mv 5 0,.o (.call (some 6) (cf 227) [(sl 5)]),.o (.alloc 3 [.v (.slice none 0 0)]),.o (.store 1 (sl 3) (sl 6))])
 ((.seq (.reg [mv 7 0,fl 8 0 3,l1 9 8,.o (.lenS 10 (sl 9)),.o (.call (some 11) (cf 126) [(sl 7), (sl 10)]),mv 4 11])
 ((.seq (.seq (.reg [mv 12 0,.o (.call (some 13) (cf 126) [(sl 12), (ci 30)])])
 ((.block 0 (.seq (.reg [.o (.bin 15 .eql (sl 13) (ci 0)),mv 14 15])
 ((.cond (sl 14) (.draw [20] [(.r false [1000000000, 21, 20], fl 16 0 3),(.r false [1000000000, 21, 20], l1 17 16),(.r false [1000000000, 21, 20], mv 18 4),kr (mv 19 0),(kN, .o (.bslice 20 1 5 [(0, (ci (-1))), (1, (ci 0)), (2, (ci 1)), (3, (ci 2)), (4, (ci 3))])),(.h (some [1000000000, 20]) [], .o (.call (some 21) (cf 147) [(sl 19), (sl 20)])),kr (.o (.idx 22 5 (sl 17) (sl 18))),kr (fl 23 0 22),(kH, .o (.store 1 (sl 23) (sl 21)))])
 (.seq (.reg [.o (.bin 25 .eql (sl 13) (ci 1)),mv 24 25])
 ((.cond (sl 24) (.draw [30] [(.r false [1000000000, 31, 30], fl 26 0 3),(.r false [1000000000, 31, 30], l1 27 26),(.r false [1000000000, 31, 30], mv 28 4),kr (mv 29 0),(kN, .o (.bslice 30 1 4 [(0, (ci (-1))), (1, (ci 0)), (2, (ci 100)), (3, (ci 101))])),(.h (some [1000000000, 30]) [], .o (.call (some 31) (cf 147) [(sl 29), (sl 30)])),kr (.o (.idx 32 5 (sl 27) (sl 28))),kr (fl 33 1 32),(kH, .o (.store 1 (sl 33) (sl 31)))])
 (.seq (.reg [.o (.bin 35 .eql (sl 13) (ci 2)),mv 34 35])
 ((.cond (sl 34) (.draw [40] [(.r false [1000000000, 41, 40], fl 36 0 3),(.r false [1000000000, 41, 40], l1 37 36),(.r false [1000000000, 41, 40], mv 38 4),kr (mv 39 0),(kN, .o (.bslice 40 1 4 [(0, (ci (-2))), (1, (ci (-1))), (2, (ci 0)), (3, (ci 2))])),(.h (some [1000000000, 40]) [], .o (.call (some 41) (cf 147) [(sl 39), (sl 40)])),kr (.o (.idx 42 5 (sl 37) (sl 38))),kr (fl 43 3 42),(kH, .o (.store 1 (sl 43) (sl 41)))])
 (.seq (.reg [.o (.bin 45 .eql (sl 13) (ci 3)),mv 44 45])
 ((.cond (sl 44) (.reg [fl 46 0 3,l1 47 46,.o (.bslice 48 1 2 [(0, (ci 1)), (1, (ci 1))]),.o (.idx 49 5 (sl 47) (ci 0)),fl 50 4 49,.o (.store 1 (sl 50) (sl 48))])
 (.seq (.reg [.o (.bin 52 .eql (sl 13) (ci 4)),mv 51 52])
 ((.cond (sl 51) (.seq (.weak (.reg [fl 53 0 3,l1 54 53,mv 55 4,.o (.slc 56 5 (sl 54) none (some (sl 55))),.o (.build 57 [.v (.slice none 0 0)] [(0, 1)] [(0, (sl 56))]),.o (.store 1 (sl 2) (sl 57))]))
 (.ret))
 (.seq (.reg [.o (.bin 59 .eql (sl 13) (ci 5)),mv 58 59])
 ((.cond (sl 58) (.seq (.weak (.draw [] [(.h (some []) [72], .o (.bslice 60 5 0 [])),(.r false [60, 63, 72], fl 61 0 3),(.r false [60, 63, 72], l1 62 61),(.h (some [60]) [72], .o (.app 63 5 56 (sl 60) (sl 62))),(.r false [60, 63, 72], fl 64 0 3),(.r false [60, 63, 72], l1 65 64),(.r false [60, 63, 72], fl 66 0 3),(.r false [60, 63, 72], l1 67 66),(.r false [60, 63, 72], .o (.lenS 68 (sl 67))),(.r false [60, 63, 72], .o (.bin 69 .sub (sl 68) (ci 1))),(.r false [60, 63, 72], .o (.idx 70 5 (sl 65) (sl 69))),(.r false [60, 63, 72], ln 71 5 70),(.h (some []) [60, 63], .o (.bslice 72 5 1 [(0, (sl 71))])),(kH, .o (.app 73 5 56 (sl 63) (sl 72))),kr (.o (.build 74 [.v (.slice none 0 0)] [(0, 1)] [(0, (sl 73))])),(kH, .o (.store 1 (sl 2) (sl 74)))]))
 (.ret))
 .skip)))))))))))))))))))))
 ((.seq (.weak (.reg [ln 75 1 3,.o (.store 1 (sl 2) (sl 75))]))
 (.ret))))))))))
theorem q0zq {rin args Q} (ha : args.length <= 76) (h : fW 76 q0yl [.cell 2 33] rin args Q) : Fun Try.prog 223 rin args Q :=
 Fun.of (H := ⟨[(5, 0, .r false [1000000000, 21, 20]), (5, 1, .r false [1000000000, 21, 20]), (5, 2, .r false [1000000000, 21, 20]), (5, 5, .h (some [1000000000, 20]) []), (7, 0, .r false [1000000000, 31, 30]), (7, 1, .r false [1000000000, 31, 30]), (7, 2, .r false [1000000000, 31, 30]), (7, 5, .h (some [1000000000, 30]) []), (9, 0, .r false [1000000000, 41, 40]), (9, 1, .r false [1000000000, 41, 40]), (9, 2, .r false [1000000000, 41, 40]), (9, 5, .h (some [1000000000, 40]) []), (15, 0, .h (some []) [72]), (15, 3, .h (some [60]) [72]), (15, 12, .h (some []) [60, 63]), (15, 1, .r false [60, 63, 72]), (15, 2, .r false [60, 63, 72]), (15, 4, .r false [60, 63, 72]), (15, 5, .r false [60, 63, 72]), (15, 6, .r false [60, 63, 72]), (15, 7, .r false [60, 63, 72]), (15, 8, .r false [60, 63, 72]), (15, 9, .r false [60, 63, 72]), (15, 10, .r false [60, 63, 72]), (15, 11, .r false [60, 63, 72])], [13, 15, 16]⟩) Try.func223 rfl rfl rfl (by kernel_rfl) ha (by decide) h

section
attribute [-go_sem] q0i5 q0id fldC lenC idxC q0ip q0lp
theorem q127 (cs : List Int) (hc : q161 cs) (hl : cs.length <= 100000000000) (a : Nat × Int) (ha : q0qx a) : ∃ x : List Nd × (Nat × Int), (q0rx 100 x.1 /\ 0 < x.1.length /\ q0qx x.2) /\ Fun Try.prog 227 [.box [bytes cs, .i a.1, .i a.2]] [.own 1000000000] fun o r => o = [.box [bytes cs, .i x.2.1, .i x.2.2]] /\ r = .agg [q0m0 x.1] := by
  have hs1 := q10o (cs := cs) hl ha 5
  by_cases q0 : (q10m cs a 5).1 = 0
  . obtain ⟨g1, g2, g3⟩ := q11d (cs := cs) hl 3 [] (q10m cs a 5).2 hs1 (by simp)
    refine ⟨rndF cs 3 ([], (q10m cs a 5).2), ⟨⟨Nat.le_trans g1.1 (by decide), g1.2⟩, by simpa using g2, g3⟩, ?_⟩
    refine q0zt (by simp) ?_
    simp -implicitDefEqProofs only [eR', go_sem, q0yo]
    refine q006.ref (q10p cs hc hl a ha 5 (by omega)) [1000000000] [] rfl Try.call126 (by simp) ?_ (by simp) ?_ (.inl rfl) ?_
    . simp -implicitDefEqProofs only [sR', Nat.reduceEqDiff, ↓reduceIte]
    . simp -implicitDefEqProofs only [aR', go_sem]
    simp -implicitDefEqProofs only [cR', go_sem]
    generalize q10m cs a 5 = z at q0 hs1 ⊢
    obtain ⟨k, b⟩ := z
    simp only [] at q0 hs1 ⊢
    refine ⟨fun h0 => ?_, fun h0 => absurd h0 (by simp [q0])⟩
    have hp := q126 cs hc hl 1000 (by omega) 3 [] b hs1 ⟨by simp, by simp⟩ (by decide)
    simp only [q0m0, q06e, show ((3 : Nat) : Int) = 3 from rfl] at hp
    refine q006.ref hp [1000000000, 12] [] rfl Try.call199 (by simp) ?_ (by simp) ?_ (.inl rfl) ?_
    . simp -implicitDefEqProofs only [sR', Nat.reduceEqDiff, ↓reduceIte]
    . simp -implicitDefEqProofs only [aR', go_sem]
    simp -implicitDefEqProofs only [cR', go_sem]
    rfl
  . by_cases q1 : (q10m cs a 5).1 = 1
    . have hs2 := q10o (cs := cs) hl hs1 4
      have hb2 := q10n (cs := cs) (a := (q10m cs a 5).2) (n := 4) (by omega)
      have hs3 := q10o (cs := cs) hl hs2 5
      have hb3 := q10n (cs := cs) (a := (q10m cs (q10m cs a 5).2 4).2) (n := 5) (by omega)
      obtain ⟨l', h1', h2', hp⟩ := q11u (q10m cs (q10m cs a 5).2 4).1 (1 + (q10m cs (q10m cs (q10m cs a 5).2 4).2 5).1) 1 (by omega) (by omega) (by omega) (by omega) (by omega)
      refine ⟨(l', (q10m cs (q10m cs (q10m cs a 5).2 4).2 5).2), ⟨h1', h2', hs3⟩, ?_⟩
      refine q0zt (by simp) ?_
      simp -implicitDefEqProofs only [eR', go_sem, q0yo]
      refine q006.ref (q10p cs hc hl a ha 5 (by omega)) [1000000000] [] rfl Try.call126 (by simp) ?_ (by simp) ?_ (.inl rfl) ?_
      . simp -implicitDefEqProofs only [sR', Nat.reduceEqDiff, ↓reduceIte]
      . simp -implicitDefEqProofs only [aR', go_sem]
      simp -implicitDefEqProofs only [cR', go_sem]
      generalize q10m cs a 5 = z at *
      obtain ⟨k, b⟩ := z
      simp only [] at q0 q1 hs1 hs2 hb2 hs3 hb3 hp ⊢
      refine ⟨fun h0 => absurd h0 (by simp [q0]), fun h0 => ⟨fun h1 => ?_, fun h1 => absurd h1 (by simp [q1])⟩⟩
      refine q006.ref (q10p cs hc hl b hs1 4 (by omega)) [1000000000] [] rfl Try.call126 (by simp) ?_ (by simp) ?_ (.inl rfl) ?_
      . simp -implicitDefEqProofs only [sR', Nat.reduceEqDiff, ↓reduceIte]
      . simp -implicitDefEqProofs only [aR', go_sem]
      simp -implicitDefEqProofs only [cR', go_sem]
      generalize q10m cs b 4 = z at *
      obtain ⟨p, b2⟩ := z
      simp only [] at hs2 hb2 hs3 hb3 hp ⊢
      refine q006.ref (q10p cs hc hl b2 hs2 5 (by omega)) [1000000000] [] rfl Try.call126 (by simp) ?_ (by simp) ?_ (.inl rfl) ?_
      . simp -implicitDefEqProofs only [sR', Nat.reduceEqDiff, ↓reduceIte]
      . simp -implicitDefEqProofs only [aR', go_sem]
      simp -implicitDefEqProofs only [cR', go_sem]
      generalize q10m cs b2 5 = z at *
      obtain ⟨q, b3⟩ := z
      simp only [] at hs3 hb3 hp ⊢
      rw [wrap64 (n := 1 + q) (by omega) (by omega)]
      simp only [show ((1 : Nat) : Int) = 1 from rfl, q0m0] at hp
      refine q006.res hp [] rfl Try.call184 ?_ (.inl rfl) ?_
      . simp -implicitDefEqProofs only [aR', go_sem]
      simp -implicitDefEqProofs only [cR', go_sem, opR, Nat.reduceBEq]
      rfl
    . have hs2 := q10o (cs := cs) hl hs1 3
      have hb2 := q10n (cs := cs) (a := (q10m cs a 5).2) (n := 3) (by omega)
      have hs3 := q10o (cs := cs) hl hs2 4
      have hb3 := q10n (cs := cs) (a := (q10m cs (q10m cs a 5).2 3).2) (n := 4) (by omega)
      obtain ⟨l', h1', h2', hp⟩ := q11u (1 + (q10m cs (q10m cs a 5).2 3).1) (1 + (q10m cs (q10m cs (q10m cs a 5).2 3).2 4).1) 0 (by omega) (by omega) (by omega) (by omega) (by omega)
      refine ⟨(l', (q10m cs (q10m cs (q10m cs a 5).2 3).2 4).2), ⟨h1', h2', hs3⟩, ?_⟩
      refine q0zt (by simp) ?_
      simp -implicitDefEqProofs only [eR', go_sem, q0yo]
      refine q006.ref (q10p cs hc hl a ha 5 (by omega)) [1000000000] [] rfl Try.call126 (by simp) ?_ (by simp) ?_ (.inl rfl) ?_
      . simp -implicitDefEqProofs only [sR', Nat.reduceEqDiff, ↓reduceIte]
      . simp -implicitDefEqProofs only [aR', go_sem]
      simp -implicitDefEqProofs only [cR', go_sem]
      generalize q10m cs a 5 = z at *
      obtain ⟨k, b⟩ := z
      simp only [] at q0 q1 hs1 hs2 hb2 hs3 hb3 hp ⊢
      refine ⟨fun h0 => absurd h0 (by simp [q0]), fun h0 => ⟨fun h1 => absurd h1 (by simp [q1]), fun h1 => ?_⟩⟩
      refine q006.ref (q10p cs hc hl b hs1 3 (by omega)) [1000000000] [] rfl Try.call126 (by simp) ?_ (by simp) ?_ (.inl rfl) ?_
      . simp -implicitDefEqProofs only [sR', Nat.reduceEqDiff, ↓reduceIte]
      . simp -implicitDefEqProofs only [aR', go_sem]
      simp -implicitDefEqProofs only [cR', go_sem]
      generalize q10m cs b 3 = z at *
      obtain ⟨p, b2⟩ := z
      simp only [] at hs2 hb2 hs3 hb3 hp ⊢
      refine q006.ref (q10p cs hc hl b2 hs2 4 (by omega)) [1000000000] [] rfl Try.call126 (by simp) ?_ (by simp) ?_ (.inl rfl) ?_
      . simp -implicitDefEqProofs only [sR', Nat.reduceEqDiff, ↓reduceIte]
      . simp -implicitDefEqProofs only [aR', go_sem]
      simp -implicitDefEqProofs only [cR', go_sem]
      generalize q10m cs b2 4 = z at *
      obtain ⟨q, b3⟩ := z
      simp only [] at hs3 hb3 hp ⊢
      rw [wrap64 (n := 1 + p) (by omega) (by omega), wrap64 (n := 1 + q) (by omega) (by omega)]
      simp only [show ((0 : Nat) : Int) = 0 from rfl, q0m0] at hp
      refine q006.res hp [] rfl Try.call184 ?_ (.inl rfl) ?_
      . simp -implicitDefEqProofs only [aR', go_sem]
      simp -implicitDefEqProofs only [cR', go_sem, opR, Nat.reduceBEq]
      rfl
theorem q10r (l : List Nd) : (T.arr 5 (chunk q0lu l)).toSh = nodes l := by
  simp only [nodes, T.toSh, T.toShL_eq_map, chunk, List.map_flatMap]
  rfl
theorem q12g (l : List Nd) : T.toShL (chunk q0lv l) = chunk q0lu l := by
  have h := q0m1 l
  rw [q0m0, nodes, T.toSh] at h
  injection h
theorem q12h (l : List Nd) : T.toShL (chunk q0lu l) = chunk q0lu l := by
  have h := q10r l
  rw [nodes, T.toSh] at h
  injection h
theorem q0y2 (l : List Nd) : (chunk q0lu l).all T.cell = true := by
  rw [List.all_eq_true]
  intro t ht
  simp only [chunk, List.mem_flatMap] at ht
  obtain ⟨x, _, hx⟩ := ht
  simp only [q0lu, List.mem_cons, List.not_mem_nil, or_false] at hx
  rcases hx with rfl | rfl | rfl | rfl | rfl <;> rfl
theorem q0yx : ∀ (l : List Nd) (i : Nat) (x : Nd) (v : Int), l[i]? = some x -> (chunk q0lv l).set (i * 5) (.i v) = chunk q0lv (l.set i ⟨v, x.a, x.b, x.f, x.ch⟩)
  | [], i, x, v, h => by simp at h
  | a :: l, 0, x, v, h => by
    simp at h; subst h
    rw [q069, List.set_cons_zero, q069]; rfl
  | a :: l, i + 1, x, v, h => by
    rw [q069, List.set_append_right _ _ (by rw [q0lw]; omega), q0lw, show (i + 1) * 5 - 5 = i * 5 by omega, q0yx l i x v (by simpa using h), List.set_cons_succ, q069]
theorem q0yu : ∀ (l : List Nd) (i : Nat) (x : Nd) (v : Int), l[i]? = some x -> (chunk q0lv l).set (i * 5 + 1) (.i v) = chunk q0lv (l.set i ⟨x.p, v, x.b, x.f, x.ch⟩)
  | [], i, x, v, h => by simp at h
  | a :: l, 0, x, v, h => by
    simp at h; subst h
    rw [q069, List.set_cons_zero, q069]; rfl
  | a :: l, i + 1, x, v, h => by
    rw [q069, List.set_append_right _ _ (by rw [q0lw]; omega), q0lw, show (i + 1) * 5 + 1 - 5 = i * 5 + 1 by omega, q0yu l i x v (by simpa using h), List.set_cons_succ, q069]
theorem q0yw : ∀ (l : List Nd) (i : Nat) (x : Nd) (v : Int), l[i]? = some x -> (chunk q0lv l).set (i * 5 + 3) (.i v) = chunk q0lv (l.set i ⟨x.p, x.a, x.b, v, x.ch⟩)
  | [], i, x, v, h => by simp at h
  | a :: l, 0, x, v, h => by
    simp at h; subst h
    rw [q069, List.set_cons_zero, q069]; rfl
  | a :: l, i + 1, x, v, h => by
    rw [q069, List.set_append_right _ _ (by rw [q0lw]; omega), q0lw, show (i + 1) * 5 + 3 - 5 = i * 5 + 3 by omega, q0yw l i x v (by simpa using h), List.set_cons_succ, q069]
theorem q11t {b : Nat} {l : List Nd} (h : q0rx b l) {i : Nat} {x : Nd} (hx : l[i]? = some x) (p a c f : Int) : q0rx b (l.set i ⟨p, a, c, f, x.ch⟩) := q11s h i _ (h.2 x (List.mem_of_getElem? hx))
def q0z4 (b : Bool) (l : List Nd) : T := .agg [if b then nodes l else .arr 5 (chunk q0lu l)]
def tdF (cs : List Int) (l : List Nd) (k : Nat) (q : Int) (c : Nat × Int) : (List Nd × Bool) × (Nat × Int) :=
  match l[k]? with
  | none => ((l, true), c)
  | some z =>
    if q = 0 then ((l.set k ⟨(q115 cs c [-1, 0, 1, 2, 3]).1, z.a, z.b, z.f, z.ch⟩, true), (q115 cs c [-1, 0, 1, 2, 3]).2)
    else if q = 1 then ((l.set k ⟨z.p, (q115 cs c [-1, 0, 100, 101]).1, z.b, z.f, z.ch⟩, true), (q115 cs c [-1, 0, 100, 101]).2)
    else if q = 2 then ((l.set k ⟨z.p, z.a, z.b, (q115 cs c [-2, -1, 0, 2]).1, z.ch⟩, true), (q115 cs c [-2, -1, 0, 2]).2)
    else if q = 3 then ((q11m l 0 [1, 1], true), c)
    else if q = 4 then ((l.take k, true), c)
    else if q = 5 then ((l ++ l[l.length - 1]?.toList, false), c)
    else ((l, true), c)
theorem q12f {cs : List Int} (hl : cs.length <= 100000000000) {l : List Nd} (h : q0rx 100 l) (k : Nat) (q : Int) {c : Nat × Int} (hc : q0qx c) : q0rx 101 (tdF cs l k q c).1.1 /\ q0qx (tdF cs l k q c).2 := by
  have hs : q0rx 101 l := ⟨by have := h.1; omega, h.2⟩
  unfold tdF
  cases hz : l[k]? with
  | none => exact ⟨hs, hc⟩
  | some z =>
    (try simp only [])
    split
    . exact ⟨q11t hs hz _ _ _ _, q116 hl hc _⟩
    split
    . exact ⟨q11t hs hz _ _ _ _, q116 hl hc _⟩
    split
    . exact ⟨q11t hs hz _ _ _ _, q116 hl hc _⟩
    split
    . exact ⟨(q11n hs 0 (by simp)).1, hc⟩
    split
    . exact ⟨⟨by show (l.take k).length <= 101; rw [List.length_take]; have := hs.1; omega, fun x hx => hs.2 x (List.mem_of_mem_take hx)⟩, hc⟩
    split
    . refine ⟨⟨?_, fun x hx => ?_⟩, hc⟩
      . have := h.1
        show (l ++ l[l.length - 1]?.toList).length <= 101
        rw [List.length_append]
        have : l[l.length - 1]?.toList.length <= 1 := by cases l[l.length - 1]? <;> simp
        omega
      . rcases List.mem_append.1 hx with hx | hx
        . exact hs.2 x hx
        . cases hg : l[l.length - 1]? with
          | none => rw [hg] at hx; simp at hx
          | some y => rw [hg] at hx; simp at hx; rw [hx]; exact hs.2 _ (List.mem_of_getElem? hg)
    . exact ⟨hs, hc⟩
theorem q122 (cs : List Int) (hc : q161 cs) (hl : cs.length <= 100000000000) (a : Nat × Int) (ha : q0qx a) : ∃ x : (List Nd × Bool) × (Nat × Int), (q0rx 101 x.1.1 /\ q0qx x.2) /\ Fun Try.prog 223 [.box [bytes cs, .i a.1, .i a.2]] [.own 1000000000] fun o r => o = [.box [bytes cs, .i x.2.1, .i x.2.2]] /\ r = q0z4 x.1.2 x.1.1 := by
  obtain ⟨⟨l, e⟩, ⟨hx1, hx2, hx3⟩, hV⟩ := q127 cs hc hl a ha
  (try simp only [] at hx1 hx2 hx3 hV)
  refine ⟨tdF cs l (q10m cs e l.length).1.toNat (q10m cs (q10m cs e l.length).2 30).1 (q10m cs (q10m cs e l.length).2 30).2, q12f hl hx1 _ _ (q10o hl (q10o hl hx3 _) _), ?_⟩
  refine q0zq (by simp) ?_
  simp -implicitDefEqProofs only [eR', go_sem, q0yl]
  simp only [q0m0] at hV
  refine q006.ref hV [1000000000] [] rfl Try.call227 (by simp) ?_ (by simp) ?_ (.inl rfl) ?_
  . simp -implicitDefEqProofs only [sR', Nat.reduceEqDiff, ↓reduceIte]
  . simp -implicitDefEqProofs only [aR', go_sem]
  simp -implicitDefEqProofs only [cR', go_sem]
  have hl1 := hx1.1
  have hnl : (chunk q0lv l).length / 5 = l.length := q06a q0lw (by decide) l
  have hnl5 : (chunk q0lv l).length = l.length * 5 := q06d q0lw l
  rw [hnl]
  refine q006.ref (q10p cs hc hl e hx3 l.length (by omega)) [1000000000] [] rfl Try.call126 (by simp) ?_ (by simp) ?_ (.inl rfl) ?_
  . simp -implicitDefEqProofs only [sR', Nat.reduceEqDiff, ↓reduceIte]
  . simp -implicitDefEqProofs only [aR', go_sem]
  simp -implicitDefEqProofs only [cR', go_sem]
  have hs1 := q10o (cs := cs) hl hx3 l.length
  have hb1 := q10n (cs := cs) (a := e) (n := l.length) (by omega)
  generalize q10m cs e l.length = z at hs1 hb1 ⊢
  obtain ⟨k, b⟩ := z
  simp only [] at hs1 hb1 ⊢
  obtain ⟨k, rfl⟩ : ∃ n : Nat, k = n := ⟨k.toNat, by omega⟩
  rw [Int.toNat_natCast]
  refine q006.ref (q10p cs hc hl b hs1 30 (by omega)) [1000000000] [] rfl Try.call126 (by simp) ?_ (by simp) ?_ (.inl rfl) ?_
  . simp -implicitDefEqProofs only [sR', Nat.reduceEqDiff, ↓reduceIte]
  . simp -implicitDefEqProofs only [aR', go_sem]
  simp -implicitDefEqProofs only [cR', go_sem, List.lookup_cons, beq_self_eq_true]
  have hs2 := q10o (cs := cs) hl hs1 30
  generalize q10m cs b 30 = z at hs2 ⊢
  obtain ⟨q, c⟩ := z
  simp only [] at hs2 ⊢
  obtain ⟨z0, hz0⟩ : ∃ z, l[k]? = some z := ⟨_, List.getElem?_eq_getElem (by omega)⟩
  have hsm : q0rx 101 l := ⟨by omega, hx1.2⟩
  refine ⟨fun q0 => ?_, fun q0 => ⟨fun q1 => ?_, fun q1 => ⟨fun q2 => ?_, fun q2 => ⟨fun q3 => ?_, fun q3 => ⟨fun q4 => ?_, fun q4 => ⟨fun q5 => ?_, fun q5 => ?_⟩⟩⟩⟩⟩⟩
  . have hp := q117 cs hc hl c hs2 [-1, 0, 1, 2, 3] (by simp) (by simp)
    simp only [intsO, List.map_cons, List.map_nil] at hp
    refine q002.ref hp [1000000000, 20] [] rfl Try.call147 (by simp) ?_ (by simp) (fun e R' hR => ?_) (.inl rfl) ?_
    . simp -implicitDefEqProofs only [sR', Nat.reduceEqDiff, ↓reduceIte]
    . simp -implicitDefEqProofs only [aR', go_sem]
    simp -implicitDefEqProofs only [cR', go_sem]
    have hs3 := q116 (cs := cs) hl hs2 [-1, 0, 1, 2, 3]
    generalize hpk : q115 cs c [-1, 0, 1, 2, 3] = z at hs3 ⊢
    obtain ⟨v, d⟩ := z
    simp only [] at hs3 ⊢
    refine ⟨?_, ((q09v.refl _ _ _).upd _ (.inl (by simp))).upd _ (.inl (by simp))⟩
    simp -implicitDefEqProofs only [eR', go_sem, hnl5]
    refine ⟨by omega, by omega, by omega, ?_⟩
    rw [q0yx l k z0 v hz0]
    refine ⟨_, Weak.trans (Weak.close1 3 0 9 rfl rfl (by decide) rfl) (Weak.trans (Weak.share 3 rfl) (Weak.o [(0, .own 1000000000), (2, .own 2), (3, .t (.pin [nodes (l.set k ⟨v, z0.a, z0.b, z0.f, z0.ch⟩)] 0)), (4, .t (.i k))] [(1000000000, .box [bytes cs, .i d.1, .i d.2]), (2, .box [.v (.slice none 0 0)])] [some 1000000000, some 2] ?_ ?_)), ?_⟩
    . simp -implicitDefEqProofs only [wR', Nat.reduceBEq, Nat.reduceEqDiff, ↓reduceIte, q0rg, T.toSh, T.toShL, q12g, nodes, List.set_cons_zero]
    . exact ⟨⟨_, rfl, .refl _⟩, rfl, ⟨_, rfl, .refl _⟩, rfl, trivial⟩
    simp -implicitDefEqProofs only [eR', go_sem, nodes]
    have hT : tdF cs l k q c = (((l.set k ⟨v, z0.a, z0.b, z0.f, z0.ch⟩), true), d) := by simp only [tdF, hz0, hpk]; exact if_pos (by simpa using q0)
    rw [hT]; exact ⟨rfl, rfl⟩
  . have hp := q117 cs hc hl c hs2 [-1, 0, 100, 101] (by simp) (by simp)
    simp only [intsO, List.map_cons, List.map_nil] at hp
    refine q002.ref hp [1000000000, 30] [] rfl Try.call147 (by simp) ?_ (by simp) (fun e R' hR => ?_) (.inl rfl) ?_
    . simp -implicitDefEqProofs only [sR', Nat.reduceEqDiff, ↓reduceIte]
    . simp -implicitDefEqProofs only [aR', go_sem]
    simp -implicitDefEqProofs only [cR', go_sem]
    have hs3 := q116 (cs := cs) hl hs2 [-1, 0, 100, 101]
    generalize hpk : q115 cs c [-1, 0, 100, 101] = z at hs3 ⊢
    obtain ⟨v, d⟩ := z
    simp only [] at hs3 ⊢
    refine ⟨?_, ((q09v.refl _ _ _).upd _ (.inl (by simp))).upd _ (.inl (by simp))⟩
    simp -implicitDefEqProofs only [eR', go_sem, hnl5]
    refine ⟨by omega, by omega, by omega, ?_⟩
    rw [q0yu l k z0 v hz0]
    refine ⟨_, Weak.trans (Weak.close1 3 0 9 rfl rfl (by decide) rfl) (Weak.trans (Weak.share 3 rfl) (Weak.o [(0, .own 1000000000), (2, .own 2), (3, .t (.pin [nodes (l.set k ⟨z0.p, v, z0.b, z0.f, z0.ch⟩)] 0)), (4, .t (.i k))] [(1000000000, .box [bytes cs, .i d.1, .i d.2]), (2, .box [.v (.slice none 0 0)])] [some 1000000000, some 2] ?_ ?_)), ?_⟩
    . simp -implicitDefEqProofs only [wR', Nat.reduceBEq, Nat.reduceEqDiff, ↓reduceIte, q0rg, T.toSh, T.toShL, q12g, nodes, List.set_cons_zero]
    . exact ⟨⟨_, rfl, .refl _⟩, rfl, ⟨_, rfl, .refl _⟩, rfl, trivial⟩
    simp -implicitDefEqProofs only [eR', go_sem, nodes]
    have hT : tdF cs l k q c = (((l.set k ⟨z0.p, v, z0.b, z0.f, z0.ch⟩), true), d) := by simp only [tdF, hz0, hpk]; rw [if_neg (by simpa using q0)]; exact if_pos (by simpa using q1)
    rw [hT]; exact ⟨rfl, rfl⟩
  . have hp := q117 cs hc hl c hs2 [-2, -1, 0, 2] (by simp) (by simp)
    simp only [intsO, List.map_cons, List.map_nil] at hp
    refine q002.ref hp [1000000000, 40] [] rfl Try.call147 (by simp) ?_ (by simp) (fun e R' hR => ?_) (.inl rfl) ?_
    . simp -implicitDefEqProofs only [sR', Nat.reduceEqDiff, ↓reduceIte]
    . simp -implicitDefEqProofs only [aR', go_sem]
    simp -implicitDefEqProofs only [cR', go_sem]
    have hs3 := q116 (cs := cs) hl hs2 [-2, -1, 0, 2]
    generalize hpk : q115 cs c [-2, -1, 0, 2] = z at hs3 ⊢
    obtain ⟨v, d⟩ := z
    simp only [] at hs3 ⊢
    refine ⟨?_, ((q09v.refl _ _ _).upd _ (.inl (by simp))).upd _ (.inl (by simp))⟩
    simp -implicitDefEqProofs only [eR', go_sem, hnl5]
    refine ⟨by omega, by omega, by omega, ?_⟩
    rw [q0yw l k z0 v hz0]
    refine ⟨_, Weak.trans (Weak.close1 3 0 9 rfl rfl (by decide) rfl) (Weak.trans (Weak.share 3 rfl) (Weak.o [(0, .own 1000000000), (2, .own 2), (3, .t (.pin [nodes (l.set k ⟨z0.p, z0.a, z0.b, v, z0.ch⟩)] 0)), (4, .t (.i k))] [(1000000000, .box [bytes cs, .i d.1, .i d.2]), (2, .box [.v (.slice none 0 0)])] [some 1000000000, some 2] ?_ ?_)), ?_⟩
    . simp -implicitDefEqProofs only [wR', Nat.reduceBEq, Nat.reduceEqDiff, ↓reduceIte, q0rg, T.toSh, T.toShL, q12g, nodes, List.set_cons_zero]
    . exact ⟨⟨_, rfl, .refl _⟩, rfl, ⟨_, rfl, .refl _⟩, rfl, trivial⟩
    simp -implicitDefEqProofs only [eR', go_sem, nodes]
    have hT : tdF cs l k q c = (((l.set k ⟨z0.p, z0.a, z0.b, v, z0.ch⟩), true), d) := by simp only [tdF, hz0, hpk]; rw [if_neg (by simpa using q0), if_neg (by simpa using q1)]; exact if_pos (by simpa using q2)
    rw [hT]; exact ⟨rfl, rfl⟩
  . obtain ⟨z1, hz1⟩ : ∃ z, l[0]? = some z := ⟨_, List.getElem?_eq_getElem (by omega)⟩
    have hch := q0yv l 0 z1 [1, 1] hz1
    simp only [Nat.zero_mul, Nat.zero_add, intsO, List.map_cons, List.map_nil] at hch
    refine ⟨by omega, by omega, ?_⟩
    simp -implicitDefEqProofs only [eR', go_sem, hch]
    refine ⟨_, Weak.trans (Weak.close1 3 0 9 rfl rfl (by decide) rfl) (Weak.trans (Weak.share 3 rfl) (Weak.o [(0, .own 1000000000), (2, .own 2), (3, .t (.pin [nodes (l.set 0 ⟨z1.p, z1.a, z1.b, z1.f, [1, 1]⟩)] 0)), (4, .t (.i k))] [(1000000000, .box [bytes cs, .i c.1, .i c.2]), (2, .box [.v (.slice none 0 0)])] [some 1000000000, some 2] ?_ ?_)), ?_⟩
    . simp -implicitDefEqProofs only [wR', Nat.reduceBEq, Nat.reduceEqDiff, ↓reduceIte, q0rg, T.toSh, T.toShL, q12g, nodes, List.set_cons_zero]
    . exact ⟨⟨_, rfl, .refl _⟩, rfl, ⟨_, rfl, .refl _⟩, rfl, trivial⟩
    simp -implicitDefEqProofs only [eR', go_sem, nodes]
    have hT : tdF cs l k q c = ((l.set 0 ⟨z1.p, z1.a, z1.b, z1.f, [1, 1]⟩, true), c) := by simp only [tdF, hz0]; rw [if_neg (by simpa using q0), if_neg (by simpa using q1), if_neg (by simpa using q2), if_pos (by simpa using q3)]; simp only [q11m, hz1]
    rw [hT]; exact ⟨rfl, rfl⟩
  . refine ⟨_, Weak.trans (Weak.close1 3 0 9 rfl rfl (by decide) rfl) (Weak.trans (Weak.share 3 rfl) (Weak.o [(0, .own 1000000000), (2, .own 2), (3, .t (.pin [nodes l] 0)), (4, .t (.i k))] [(1000000000, .box [bytes cs, .i c.1, .i c.2]), (2, .box [.v (.slice none 0 0)])] [some 1000000000, some 2] ?_ ?_)), ?_⟩
    . simp -implicitDefEqProofs only [wR', Nat.reduceBEq, Nat.reduceEqDiff, ↓reduceIte, q0rg, T.toSh, T.toShL, q12g, nodes, List.set_cons_zero]
    . exact ⟨⟨_, rfl, .refl _⟩, rfl, ⟨_, rfl, .refl _⟩, rfl, trivial⟩
    simp -implicitDefEqProofs only [eR', go_sem, nodes]
    have hT : tdF cs l k q c = ((l.take k, true), c) := by simp only [tdF, hz0]; rw [if_neg (by simpa using q0), if_neg (by simpa using q1), if_neg (by simpa using q2), if_neg (by simpa using q3)]; exact if_pos (by simpa using q4)
    rw [hT]
    refine ⟨by omega, by rw [q0l0]; omega, rfl, ?_⟩
    rw [q0z4, Nat.sub_zero, q0yy q0lx]; rfl
  . refine ⟨_, Weak.trans (Weak.close1 3 0 9 rfl rfl (by decide) rfl) (Weak.trans (Weak.share 3 rfl) (Weak.o [(0, .own 1000000000), (2, .own 2), (3, .t (.pin [nodes l] 0)), (4, .t (.i k))] [(1000000000, .box [bytes cs, .i c.1, .i c.2]), (2, .box [.v (.slice none 0 0)])] [some 1000000000, some 2] ?_ ?_)), ?_⟩
    . simp -implicitDefEqProofs only [wR', Nat.reduceBEq, Nat.reduceEqDiff, ↓reduceIte, q0rg, T.toSh, T.toShL, q12g, nodes, List.set_cons_zero]
    . exact ⟨⟨_, rfl, .refl _⟩, rfl, ⟨_, rfl, .refl _⟩, rfl, trivial⟩
    obtain ⟨z1, hz1⟩ : ∃ z, l[l.length - 1]? = some z := ⟨_, List.getElem?_eq_getElem (by omega)⟩
    have hw : IntKind.i64.wrap ((l.length : Int) - 1) = ((l.length - 1 : Nat) : Int) := by rw [wrap64 (by omega) (by omega)]; omega
    simp -implicitDefEqProofs only [eR', go_sem, nodes, q0l0, hw, q0kw hz1, q0y2, show l.length * 5 / 5 = l.length by omega]
    refine ⟨⟨by omega, ⟨by omega, by omega, by omega, rfl, ?_, (q09v.refl _ _ _).upd _ (.inr rfl)⟩, ((q09v.refl _ _ _).upd _ (.inl (by simp))).upd _ (.inr rfl)⟩, (q09v.refl _ _ _).upd _ (.inr rfl)⟩
    generalize hR : q0k5 [60, 63] _ _ = R
    have h63 : R 63 = .live (.arr 5 (chunk q0lu l)) [] := by rw [← hR]; rfl
    have h73 : R 73 = .free := by rw [← hR]; rfl
    rw [h63, h73]
    have hT : tdF cs l k q c = ((l ++ [z1], false), c) := by simp only [tdF, hz0]; rw [if_neg (by simpa using q0), if_neg (by simpa using q1), if_neg (by simpa using q2), if_neg (by simpa using q3), if_neg (by simpa using q4), if_pos (by simpa using q5), hz1]; rfl
    rw [hT]
    refine ⟨rfl, by rw [q0l0]; omega, rfl, rfl, ?_⟩
    simp only [q0z4, q067]; rfl
  . refine ⟨_, Weak.trans (Weak.close1 3 0 9 rfl rfl (by decide) rfl) (Weak.trans (Weak.share 3 rfl) (Weak.o [(0, .own 1000000000), (2, .own 2), (3, .t (.pin [nodes l] 0)), (4, .t (.i k))] [(1000000000, .box [bytes cs, .i c.1, .i c.2]), (2, .box [.v (.slice none 0 0)])] [some 1000000000, some 2] ?_ ?_)), ?_⟩
    . simp -implicitDefEqProofs only [wR', Nat.reduceBEq, Nat.reduceEqDiff, ↓reduceIte, q0rg, T.toSh, T.toShL, q12g, nodes, List.set_cons_zero]
    . exact ⟨⟨_, rfl, .refl _⟩, rfl, ⟨_, rfl, .refl _⟩, rfl, trivial⟩
    simp -implicitDefEqProofs only [eR', go_sem, nodes]
    have hT : tdF cs l k q c = ((l, true), c) := by simp only [tdF, hz0]; rw [if_neg (by simpa using q0), if_neg (by simpa using q1), if_neg (by simpa using q2), if_neg (by simpa using q3), if_neg (by simpa using q4), if_neg (by simpa using q5)]
    rw [hT]; exact ⟨rfl, rfl⟩
end
section
attribute [-go_sem] q0i5 q0id fldC lenC idxC q0ip q0lp
theorem q12a (l : List Nd) (hl : q0rx 1000 l) : Fun Try.prog 219 [] [.t (q0vz l)] fun o r => o = [] /\ r = .agg [q0m0 l] := by
  refine q0zw (by simp) ?_
  simp -implicitDefEqProofs only [eR', go_sem, q0yr, q0vz, nodes]
  refine SemC.loopR (σ := Nat) (fun i => St.of [(1, .own 1), (2, .own 2), (3, .own 96), (4, .t (.i i))] [(1, .box [nodes l]), (2, .box [.v (.slice none 0 0)]), (96, q0m0 (l.take i))]) (fun i => i <= l.length) (fun i => l.length - i) 0 (Weak.o _ _ [some 1, some 2, some 6] ?_ ?_) (by simp) fun i hi R hn hr he => ?_
  . simp -implicitDefEqProofs only [wR', Nat.reduceBEq, Nat.reduceEqDiff, ↓reduceIte, nodes]
  . exact ⟨⟨_, rfl, .refl _⟩, rfl, ⟨_, rfl, .refl _⟩, rfl, ⟨_, rfl, .refl _⟩, rfl, trivial⟩
  have hl1 := hl.1
  rcases Nat.lt_or_ge i l.length with h9 | h9
  . obtain ⟨x, hx⟩ : ∃ x, l[i]? = some x := ⟨_, List.getElem?_eq_getElem h9⟩
    have hxl := hl.2 x (List.mem_of_getElem? hx)
    have hnt : (chunk q0lv (l.take i)).length = i * 5 := by rw [q06d q0lw, List.length_take, Nat.min_eq_left (by omega)]
    simp -implicitDefEqProofs only [eR', go_sem, nodes, q0m0, decide_eq_true (show (i : Int) < (l.length : Int) by omega), q0kw hx]
    refine ⟨by omega, by rw [q0l0]; omega, by rw [q0l0]; omega, ?_⟩
    have hp := q0s5 x.ch (by omega)
    simp only [ints, intsO] at hp
    refine q006.res hp [] rfl Try.call167 ?_ (.inl rfl) ?_
    . simp -implicitDefEqProofs only [aR', go_sem]
    simp -implicitDefEqProofs only [cR', go_sem, opR, Nat.reduceBEq, hnt]
    refine ⟨by omega, hn _ (i + 1) (Weak.o _ _ [some 1, some 2, some 26] ?_ ?_) (by omega) (by omega)⟩
    . simp -implicitDefEqProofs only [wR', Nat.reduceBEq, Nat.reduceEqDiff, ↓reduceIte, nodes, q0lb h9 (by omega)]
    . refine ⟨⟨_, rfl, .refl _⟩, rfl, ⟨_, rfl, .refl _⟩, rfl, ⟨_, rfl, ?_⟩, rfl, trivial⟩
      rw [q0m0, q0uj hx, q067]; exact .refl _
  . simp -implicitDefEqProofs only [eR', go_sem, nodes, decide_eq_false (show ¬ (i : Int) < (l.length : Int) by omega)]
    refine he _ _ ?_
    simp -implicitDefEqProofs only [eR', go_sem, q0m0]
    rw [List.take_of_length_le (by omega)]
theorem q121 (x y : Int) : Fun Try.prog 218 [] [.t (.i x), .t (.i y)] fun o r => ∃ z : Int, o = [] /\ r = .i z /\ (-1 <= z /\ z <= 1) := by
  refine q0zp (by simp) ?_
  simp -implicitDefEqProofs only [eR', go_sem, q0yk]
  refine ⟨fun h => ?_, fun h => ⟨fun h1 => ?_, fun h1 => ?_⟩⟩
  . exact ⟨_, rfl, by omega, by omega⟩
  . exact ⟨_, rfl, by omega, by omega⟩
  . exact ⟨_, rfl, by omega, by omega⟩
def q11q (g : Gm) : Prop := q0rx 101 g.nd /\ g.w.length <= 4 /\ (∀ r ∈ g.w, r.length <= 4) /\ g.v.length <= 4 /\ ∀ r ∈ g.v, r.length <= 4
theorem q11k {m : List (List Int)} {r : List Int} {k : Nat} (h : ∀ x ∈ m, x.length = k) (hr : r.length = k) : ∀ x ∈ m ++ [r], x.length = k := by
  intro x hx
  rcases List.mem_append.1 hx with hx | hx
  . exact h x hx
  . simp at hx; rw [hx]; exact hr
theorem q129 (l : List Nd) (hl : q0rx 101 l) (k : Nat) (hk : k <= 4) (ag : Bool) : Fun Try.prog 185 [] [.t (q0vz l), .t (.i k), .t (.b ag)] fun o r => ∃ g : Gm, o = [] /\ r = q0cg g /\ (g.nd = l /\ g.w.length = k /\ (∀ r ∈ g.w, r.length = k) /\ g.v.length = k /\ ∀ r ∈ g.v, r.length = k) := by
  refine q0zv (by simp) ?_
  simp -implicitDefEqProofs only [eR', go_sem, q0yq, q0vz, nodes]
  refine SemC.loopR (σ := List (List Int) × List (List Int)) (fun s => St.of [(1, .t (.i k)), (2, .t (.b ag)), (3, .own 3), (6, .own 6), (7, .own 96), (8, .own 97), (9, .t (.i s.1.length))] [(3, .box [nodes l]), (6, .box [.v (.slice none 0 0), .v (.slice none 0 0), .v (.slice none 0 0)]), (96, q0qa s.1), (97, q0qa s.2)]) (fun s => s.1.length <= k /\ s.2.length = s.1.length /\ (∀ r ∈ s.1, r.length = k) /\ ∀ r ∈ s.2, r.length = k) (fun s => k - s.1.length) ([], []) (Weak.o _ _ [some 3, some 6, some 13, some 14] ?_ ?_) (by simp) fun s hI R hn hr he => ?_
  . simp -implicitDefEqProofs only [wR', Nat.reduceBEq, Nat.reduceEqDiff, ↓reduceIte, nodes, List.length_nil]
  . exact ⟨⟨_, rfl, .refl _⟩, rfl, ⟨_, rfl, .refl _⟩, rfl, ⟨_, rfl, .refl _⟩, rfl, ⟨_, rfl, .refl _⟩, rfl, trivial⟩
  obtain ⟨w, v⟩ := s
  obtain ⟨i1, i2, i3, i4⟩ := hI
  (try simp only [] at i1 i2 i3 i4)
  rcases Nat.lt_or_ge w.length k with h9 | h9
  . simp -implicitDefEqProofs only [eR', go_sem, nodes, q0qa, decide_eq_true (show (w.length : Int) < (k : Int) by omega)]
    refine SemC.loopR (σ := List Int × List Int) (fun s => St.of [(1, .t (.i k)), (2, .t (.b ag)), (3, .own 3), (6, .own 6), (7, .own 96), (8, .own 97), (9, .t (.i w.length)), (10, .own 98), (11, .own 99), (12, .t (.i s.1.length))] [(3, .box [nodes l]), (6, .box [.v (.slice none 0 0), .v (.slice none 0 0), .v (.slice none 0 0)]), (96, q0qa w), (97, q0qa v), (98, intsO s.1), (99, intsO s.2)]) (fun s => s.1.length <= k /\ s.2.length = s.1.length) (fun s => k - s.1.length) ([], []) (Weak.o _ _ [some 3, some 6, some 96, some 97, some 20, some 21] ?_ ?_) (by simp) fun s hI R2 hn2 hr2 he2 => ?_
    . simp -implicitDefEqProofs only [wR', Nat.reduceBEq, Nat.reduceEqDiff, ↓reduceIte, nodes, List.length_nil]
    . exact ⟨⟨_, rfl, .refl _⟩, rfl, ⟨_, rfl, .refl _⟩, rfl, ⟨_, rfl, .refl _⟩, rfl, ⟨_, rfl, .refl _⟩, rfl, ⟨_, rfl, .refl _⟩, rfl, ⟨_, rfl, .refl _⟩, rfl, trivial⟩
    obtain ⟨p, q⟩ := s
    obtain ⟨j1, j2⟩ := hI
    (try simp only [] at j1 j2)
    rcases Nat.lt_or_ge p.length k with h8 | h8
    . simp -implicitDefEqProofs only [eR', go_sem, nodes, q0qa, intsO, decide_eq_true (show (p.length : Int) < (k : Int) by omega)]
      refine ⟨fun _ => ⟨fun _ => ⟨by omega, ?_⟩, fun _ => ⟨by omega, ?_⟩⟩, fun _ => ⟨by omega, ?_⟩⟩
      . refine q006.exi (q121 (w.length : Int) (p.length : Int)) [] [] rfl Try.call218 (by simp) ?_ (by simp) ?_ (.inl rfl) (fun z hz => ?_)
        . simp -implicitDefEqProofs only [sR', Nat.reduceEqDiff, ↓reduceIte]
        . simp -implicitDefEqProofs only [aR', go_sem]
        simp -implicitDefEqProofs only [cR', go_sem, intsO]
        refine ⟨by omega, hn2 _ (p ++ [0], q ++ [z]) (Weak.o _ _ [some 3, some 6, some 96, some 97, some 36, some 45] ?_ ?_) ⟨by simp; omega, by simp; omega⟩ (by simp; omega)⟩
        . simp -implicitDefEqProofs only [wR', Nat.reduceBEq, Nat.reduceEqDiff, ↓reduceIte, nodes, q0lb h8 (by omega), List.length_append, List.length_cons, List.length_nil]
        . refine ⟨⟨_, rfl, .refl _⟩, rfl, ⟨_, rfl, .refl _⟩, rfl, ⟨_, rfl, .refl _⟩, rfl, ⟨_, rfl, .refl _⟩, rfl, ⟨_, rfl, ?_⟩, rfl, ⟨_, rfl, ?_⟩, rfl, trivial⟩
          . simp only [intsO, List.map_append, List.map_cons, List.map_nil]; exact .refl _
          . simp only [intsO, List.map_append, List.map_cons, List.map_nil]; exact .refl _
      . refine q006.exi (q121 (w.length : Int) (p.length : Int)) [] [] rfl Try.call218 (by simp) ?_ (by simp) ?_ (.inl rfl) (fun z hz => ?_)
        . simp -implicitDefEqProofs only [sR', Nat.reduceEqDiff, ↓reduceIte]
        . simp -implicitDefEqProofs only [aR', go_sem]
        simp -implicitDefEqProofs only [cR', go_sem, intsO]
        refine ⟨by omega, hn2 _ (p ++ [1], q ++ [z]) (Weak.o _ _ [some 3, some 6, some 96, some 97, some 39, some 45] ?_ ?_) ⟨by simp; omega, by simp; omega⟩ (by simp; omega)⟩
        . simp -implicitDefEqProofs only [wR', Nat.reduceBEq, Nat.reduceEqDiff, ↓reduceIte, nodes, q0lb h8 (by omega), List.length_append, List.length_cons, List.length_nil]
        . refine ⟨⟨_, rfl, .refl _⟩, rfl, ⟨_, rfl, .refl _⟩, rfl, ⟨_, rfl, .refl _⟩, rfl, ⟨_, rfl, .refl _⟩, rfl, ⟨_, rfl, ?_⟩, rfl, ⟨_, rfl, ?_⟩, rfl, trivial⟩
          . simp only [intsO, List.map_append, List.map_cons, List.map_nil]; exact .refl _
          . simp only [intsO, List.map_append, List.map_cons, List.map_nil]; exact .refl _
      . refine q006.exi (q121 (w.length : Int) (p.length : Int)) [] [] rfl Try.call218 (by simp) ?_ (by simp) ?_ (.inl rfl) (fun z hz => ?_)
        . simp -implicitDefEqProofs only [sR', Nat.reduceEqDiff, ↓reduceIte]
        . simp -implicitDefEqProofs only [aR', go_sem]
        simp -implicitDefEqProofs only [cR', go_sem, intsO]
        refine ⟨by omega, hn2 _ (p ++ [1], q ++ [z]) (Weak.o _ _ [some 3, some 6, some 96, some 97, some 39, some 45] ?_ ?_) ⟨by simp; omega, by simp; omega⟩ (by simp; omega)⟩
        . simp -implicitDefEqProofs only [wR', Nat.reduceBEq, Nat.reduceEqDiff, ↓reduceIte, nodes, q0lb h8 (by omega), List.length_append, List.length_cons, List.length_nil]
        . refine ⟨⟨_, rfl, .refl _⟩, rfl, ⟨_, rfl, .refl _⟩, rfl, ⟨_, rfl, .refl _⟩, rfl, ⟨_, rfl, .refl _⟩, rfl, ⟨_, rfl, ?_⟩, rfl, ⟨_, rfl, ?_⟩, rfl, trivial⟩
          . simp only [intsO, List.map_append, List.map_cons, List.map_nil]; exact .refl _
          . simp only [intsO, List.map_append, List.map_cons, List.map_nil]; exact .refl _
    . simp -implicitDefEqProofs only [eR', go_sem, nodes, q0qa, intsO, decide_eq_false (show ¬ (p.length : Int) < (k : Int) by omega)]
      refine he2 _ _ ?_
      simp -implicitDefEqProofs only [eR', go_sem, nodes, q0qa, intsO]
      refine ⟨by omega, by omega, hn _ (w ++ [p], v ++ [q]) (Weak.o _ _ [some 3, some 6, some 49, some 53] ?_ ?_) ⟨by simp; omega, by simp; omega, q11k i3 (by omega), q11k i4 (by omega)⟩ (by simp; omega)⟩
      . simp -implicitDefEqProofs only [wR', Nat.reduceBEq, Nat.reduceEqDiff, ↓reduceIte, nodes, q0lb h9 (by omega), List.length_append, List.length_cons, List.length_nil]
      . refine ⟨⟨_, rfl, .refl _⟩, rfl, ⟨_, rfl, .refl _⟩, rfl, ⟨_, rfl, ?_⟩, rfl, ⟨_, rfl, ?_⟩, rfl, trivial⟩
        . simp only [q0qa, intsO, List.map_append, List.map_cons, List.map_nil]; exact .refl _
        . simp only [q0qa, intsO, List.map_append, List.map_cons, List.map_nil]; exact .refl _
  . simp -implicitDefEqProofs only [eR', go_sem, nodes, decide_eq_false (show ¬ (w.length : Int) < (k : Int) by omega)]
    refine he _ _ ?_
    have hp := q12a l ⟨by have := hl.1; omega, hl.2⟩
    simp only [q0vz, nodes] at hp
    simp -implicitDefEqProofs only [eR', go_sem, nodes, q0qa]
    simp only [q0m0] at hp
    refine q006.res hp [] rfl Try.call219 ?_ (.inl rfl) ?_
    . simp -implicitDefEqProofs only [aR', go_sem]
    simp -implicitDefEqProofs only [cR', go_sem, opR, Nat.reduceBEq]
    exact ⟨⟨l, w, v⟩, rfl, rfl, by show w.length = k; omega, i3, by show v.length = k; omega, i4⟩
theorem q10q : ∀ {l : List T}, (∀ t ∈ l, t.noSh) -> T.noShL l
  | [], _ => trivial
  | t :: l, h => ⟨h t (List.mem_cons_self ..), q10q fun x hx => h x (List.mem_cons_of_mem _ hx)⟩
theorem q10s (l : List Nd) : (T.arr 5 (chunk q0lv l)).noSh := by
  refine q10q fun t ht => ?_
  simp only [chunk, List.mem_flatMap] at ht
  obtain ⟨x, _, hx⟩ := ht
  simp only [q0lv, List.mem_cons, List.not_mem_nil, or_false] at hx
  rcases hx with rfl | rfl | rfl | rfl | rfl
  . trivial
  . trivial
  . trivial
  . trivial
  . exact q0fh _
theorem q0zz (g : Gm) : (T.agg [.arr 5 (chunk q0lv g.nd), .arr 1 (g.w.map intsO), .arr 1 (g.v.map intsO)]).noSh := ⟨q10s _, q0qb _, q0qb _, trivial⟩
def q10i (k : Nat) (m : List (List Int)) : Prop := m.length = k /\ ∀ r ∈ m, r.length = k
theorem q10k {k : Nat} {m : List (List Int)} (h : q10i k m) (a : Nat) {r : List Int} (hr : r.length = k) : q10i k (m.set a r) := by
  refine ⟨by rw [List.length_set]; exact h.1, fun x hx => ?_⟩
  rcases List.mem_or_eq_of_mem_set hx with hx | rfl
  . exact h.2 x hx
  . exact hr
theorem q10j {k : Nat} {m : List (List Int)} (h : q10i k m) {a : Nat} (ha : a < k) : ∃ r, m[a]? = some r /\ r.length = k := by
  have h1 : a < m.length := by rw [h.1]; exact ha
  exact ⟨m[a], List.getElem?_eq_getElem h1, h.2 _ (List.getElem_mem h1)⟩
def drG (g : Gm) : Prop := q0rx 101 g.nd /\ ∃ k, 1 <= k /\ k <= 4 /\ q10i k g.w /\ q10i k g.v
theorem q0z2 {g : Gm} (h : drG g) : q11q g := by
  obtain ⟨h1, k, h2, h3, h4, h5⟩ := h
  exact ⟨h1, by have := h4.1; omega, fun r hr => by have := h4.2 r hr; omega, by have := h5.1; omega, fun r hr => by have := h5.2 r hr; omega⟩
theorem q11x : Fun Try.prog 127 [] [] fun o r => ∃ g : Gm, o = [] /\ r = q0cg g /\ drG g := by
  refine q0zk (by simp) ?_
  simp -implicitDefEqProofs only [eR', go_sem, q0yf]
  obtain ⟨l', hl1, hl2, hp⟩ := q11u 1 1 0 (by omega) (by omega) (by omega) (by omega) (by omega)
  have hl' : q0rx 100 l' /\ 0 < l'.length := ⟨hl1, hl2⟩
  simp only [show ((0 : Nat) : Int) = 0 from rfl, q0m0] at hp
  refine q006.res hp [] rfl Try.call184 ?_ (.inl rfl) ?_
  . simp -implicitDefEqProofs only [aR', go_sem]
  simp -implicitDefEqProofs only [cR', go_sem, opR, Nat.reduceBEq]
  have hq := q129 l' ⟨by have := hl'.1.1; omega, hl'.1.2⟩ 3 (by omega) false
  simp only [q0vz, nodes, q0cg, q0m0, q0qa, show ((3 : Nat) : Int) = 3 from rfl] at hq
  refine q006.exi hq [] [8001] rfl Try.call185 (by simp) ?_ (by simp) ?_ (.inr (fun g => ⟨q0zz g, trivial⟩)) (fun g hg => ?_)
  . simp -implicitDefEqProofs only [sR', Nat.reduceEqDiff, ↓reduceIte]
  . simp -implicitDefEqProofs only [aR', go_sem]
  simp -implicitDefEqProofs only [cR', go_sem, opR, Nat.reduceBEq]
  obtain ⟨g1, g2, g3, g4, g5⟩ := hg
  exact ⟨g, rfl, ⟨by rw [g1]; have := hl'.1.1; omega, by rw [g1]; exact hl'.1.2⟩, 3, by omega, by omega, ⟨g2, g3⟩, ⟨g4, g5⟩⟩
theorem q12b (cs : List Int) (hc : q161 cs) (hl : cs.length <= 100000000000) (a : Nat × Int) (ha : q0qx a) : Fun Try.prog 222 [.box [bytes cs, .i a.1, .i a.2]] [.own 1000000000] fun o r => ∃ x : Gm × (Nat × Int), o = [.box [bytes cs, .i x.2.1, .i x.2.2]] /\ r = .agg [q0m0 x.1.nd, q0qa x.1.w, q0qa x.1.v] /\ (drG x.1 /\ q0qx x.2) := by
  refine q0zx (by simp) ?_
  simp -implicitDefEqProofs only [eR', go_sem, q0ys]
  refine q006.ref (q10p cs hc hl a ha 6 (by omega)) [1000000000] [] rfl Try.call126 (by simp) ?_ (by simp) ?_ (.inl rfl) ?_
  . simp -implicitDefEqProofs only [sR', Nat.reduceEqDiff, ↓reduceIte]
  . simp -implicitDefEqProofs only [aR', go_sem]
  simp -implicitDefEqProofs only [cR', go_sem]
  have hs1 := q10o (cs := cs) hl ha 6
  generalize q10m cs a 6 = z at hs1 ⊢
  obtain ⟨k, b⟩ := z
  simp only [] at hs1 ⊢
  refine ⟨fun h0 => ?_, fun h0 => ⟨fun h1 => ?_, fun h1 => ?_⟩⟩
  . have hp := q11x
    simp only [q0cg, q0m0, q0qa] at hp
    refine q006.exi hp [] [] rfl Try.call127 (by simp) ?_ (by simp) ?_ (.inl rfl) (fun g hg => ?_)
    . simp -implicitDefEqProofs only [sR', Nat.reduceEqDiff, ↓reduceIte]
    . simp -implicitDefEqProofs only [aR', go_sem]
    simp -implicitDefEqProofs only [cR', go_sem, opR, Nat.reduceBEq]
    exact ⟨(g, b), rfl, rfl, hg, hs1⟩
  . obtain ⟨⟨l, c⟩, ⟨hx1, hx2, hx3⟩, hV⟩ := q127 cs hc hl b hs1
    simp only [q0m0] at hx1 hx2 hx3 hV
    refine q006.ref hV [1000000000] [] rfl Try.call227 (by simp) ?_ (by simp) ?_ (.inl rfl) ?_
    . simp -implicitDefEqProofs only [sR', Nat.reduceEqDiff, ↓reduceIte]
    . simp -implicitDefEqProofs only [aR', go_sem]
    simp -implicitDefEqProofs only [cR', go_sem]
    refine q006.ref (q10p cs hc hl c hx3 2 (by omega)) [1000000000] [] rfl Try.call126 (by simp) ?_ (by simp) ?_ (.inl rfl) ?_
    . simp -implicitDefEqProofs only [sR', Nat.reduceEqDiff, ↓reduceIte]
    . simp -implicitDefEqProofs only [aR', go_sem]
    simp -implicitDefEqProofs only [cR', go_sem]
    have hs2 := q10o (cs := cs) hl hx3 2
    have hb2 := q10n (cs := cs) (a := c) (n := 2) (by omega)
    generalize q10m cs c 2 = z at hs2 hb2 ⊢
    obtain ⟨q, d⟩ := z
    simp only [] at hs2 hb2 ⊢
    obtain ⟨k, hk⟩ : ∃ n : Nat, IntKind.i64.wrap (2 + q) = n := ⟨(2 + q).toNat, by rw [wrap64 (by omega) (by omega)]; omega⟩
    have hk3 : 2 <= k /\ k <= 3 := by rw [wrap64 (by omega) (by omega)] at hk; omega
    simp only [hk]
    have hq := q129 l ⟨by have := hx1.1; omega, hx1.2⟩ k (by omega) true
    simp only [q0vz, nodes, q0cg, q0m0, q0qa] at hq
    refine q006.exi hq [] [15] rfl Try.call185 (by simp) ?_ (by simp) ?_ (.inr (fun g => ⟨q0zz g, trivial⟩)) (fun g hg => ?_)
    . simp -implicitDefEqProofs only [sR', Nat.reduceEqDiff, ↓reduceIte]
    . simp -implicitDefEqProofs only [aR', go_sem]
    simp -implicitDefEqProofs only [cR', go_sem, opR, Nat.reduceBEq]
    obtain ⟨g1, g2, g3, g4, g5⟩ := hg
    exact ⟨(g, d), rfl, rfl, ⟨⟨by rw [g1]; have := hx1.1; omega, by rw [g1]; exact hx1.2⟩, k, by omega, by omega, ⟨g2, g3⟩, ⟨g4, g5⟩⟩, hs2⟩
  . refine q006.ref (q10p cs hc hl b hs1 3 (by omega)) [1000000000] [] rfl Try.call126 (by simp) ?_ (by simp) ?_ (.inl rfl) ?_
    . simp -implicitDefEqProofs only [sR', Nat.reduceEqDiff, ↓reduceIte]
    . simp -implicitDefEqProofs only [aR', go_sem]
    simp -implicitDefEqProofs only [cR', go_sem]
    have hs2 := q10o (cs := cs) hl hs1 3
    have hb2 := q10n (cs := cs) (a := b) (n := 3) (by omega)
    generalize q10m cs b 3 = z at hs2 hb2 ⊢
    obtain ⟨q, d⟩ := z
    simp only [] at hs2 hb2 ⊢
    obtain ⟨k, hk⟩ : ∃ n : Nat, IntKind.i64.wrap (1 + q) = n := ⟨(1 + q).toNat, by rw [wrap64 (by omega) (by omega)]; omega⟩
    have hk3 : 1 <= k /\ k <= 3 := by rw [wrap64 (by omega) (by omega)] at hk; omega
    simp only [hk]
    obtain ⟨⟨l, c⟩, ⟨hx1, hx2, hx3⟩, hV⟩ := q127 cs hc hl d hs2
    simp only [q0m0] at hx1 hx2 hx3 hV
    refine q006.ref hV [1000000000] [] rfl Try.call227 (by simp) ?_ (by simp) ?_ (.inl rfl) ?_
    . simp -implicitDefEqProofs only [sR', Nat.reduceEqDiff, ↓reduceIte]
    . simp -implicitDefEqProofs only [aR', go_sem]
    simp -implicitDefEqProofs only [cR', go_sem]
    have hq := q129 l ⟨by have := hx1.1; omega, hx1.2⟩ k (by omega) true
    simp only [q0vz, nodes, q0cg, q0m0, q0qa] at hq
    refine q006.exi hq [] [24] rfl Try.call185 (by simp) ?_ (by simp) ?_ (.inr (fun g => ⟨q0zz g, trivial⟩)) (fun g hg => ?_)
    . simp -implicitDefEqProofs only [sR', Nat.reduceEqDiff, ↓reduceIte]
    . simp -implicitDefEqProofs only [aR', go_sem]
    simp -implicitDefEqProofs only [cR', go_sem, opR, Nat.reduceBEq]
    obtain ⟨g1, g2, g3, g4, g5⟩ := hg
    obtain rfl : g.nd = l := g1
    refine SemC.loopR (σ := Nat × (List (List Int) × List (List Int)) × (Nat × Int)) (fun s => St.of [(0, .own 1000000000), (2, .own 2), (3, .t (.i k)), (4, .own 4), (5, .t (.i s.1))] [(1000000000, .box [bytes cs, .i s.2.2.1, .i s.2.2.2]), (2, .box [.v (.slice none 0 0), .v (.slice none 0 0), .v (.slice none 0 0)]), (4, .box [q0m0 g.nd, q0qa s.2.1.1, q0qa s.2.1.2])]) (fun s => s.1 <= k /\ q10i k s.2.1.1 /\ q10i k s.2.1.2 /\ q0qx s.2.2) (fun s => k - s.1) (0, (g.w, g.v), c) (Weak.o _ _ [some 1000000000, some 2, some 4] ?_ ?_) ⟨by simp, ⟨g2, g3⟩, ⟨g4, g5⟩, hx3⟩ fun s hI R hn hr he => ?_
    . simp -implicitDefEqProofs only [wR', Nat.reduceBEq, Nat.reduceEqDiff, ↓reduceIte, q0m0]
    . exact ⟨⟨_, rfl, .refl _⟩, rfl, ⟨_, rfl, .refl _⟩, rfl, ⟨_, rfl, .refl _⟩, rfl, trivial⟩
    obtain ⟨i, ⟨w, v⟩, e⟩ := s
    obtain ⟨i1, i2, i3, i4⟩ := hI
    (try simp only [] at i1 i2 i3 i4)
    rcases Nat.lt_or_ge i k with h9 | h9
    . simp -implicitDefEqProofs only [eR', go_sem, q0m0, q0qa, decide_eq_true (show (i : Int) < (k : Int) by omega)]
      refine SemC.loopR (σ := Nat × (List (List Int) × List (List Int)) × (Nat × Int)) (fun s => St.of [(0, .own 1000000000), (2, .own 2), (3, .t (.i k)), (4, .own 4), (5, .t (.i i)), (6, .t (.i s.1))] [(1000000000, .box [bytes cs, .i s.2.2.1, .i s.2.2.2]), (2, .box [.v (.slice none 0 0), .v (.slice none 0 0), .v (.slice none 0 0)]), (4, .box [q0m0 g.nd, q0qa s.2.1.1, q0qa s.2.1.2])]) (fun s => s.1 <= k /\ q10i k s.2.1.1 /\ q10i k s.2.1.2 /\ q0qx s.2.2) (fun s => k - s.1) (0, (w, v), e) (Weak.o _ _ [some 1000000000, some 2, some 4] ?_ ?_) ⟨by simp, i2, i3, i4⟩ fun s hI R2 hn2 hr2 he2 => ?_
      . simp -implicitDefEqProofs only [wR', Nat.reduceBEq, Nat.reduceEqDiff, ↓reduceIte, q0m0]
      . exact ⟨⟨_, rfl, .refl _⟩, rfl, ⟨_, rfl, .refl _⟩, rfl, ⟨_, rfl, .refl _⟩, rfl, trivial⟩
      obtain ⟨j, ⟨w', v'⟩, f⟩ := s
      obtain ⟨j1, j2, j3, j4⟩ := hI
      (try simp only [] at j1 j2 j3 j4)
      obtain ⟨r0, hr0, hr0l⟩ := q10j j2 h9
      obtain ⟨s0, hs0, hs0l⟩ := q10j j3 h9
      rcases Nat.lt_or_ge j k with h8 | h8
      . simp -implicitDefEqProofs only [eR', go_sem, q0m0, q0qa, decide_eq_true (show (j : Int) < (k : Int) by omega)]
        refine ⟨_, Weak.trans (Weak.open 4 1 501 rfl rfl rfl (by decide) rfl) (Weak.open 501 i 502 (l := w'.map intsO) (lk := []) (c := intsO r0) rfl (by rw [List.getElem?_map, hr0]; rfl) rfl (by decide) rfl), ?_⟩
        simp -implicitDefEqProofs only [eR', go_sem, List.lookup_cons, beq_self_eq_true, intsO, List.length_set]
        have hwl : w'.length = k := j2.1
        have hvl : v'.length = k := j3.1
        refine ⟨by omega, by omega, by omega, ?_⟩
        refine q002.ref (q10p cs hc hl f j4 4 (by omega)) [1000000000] [] rfl Try.call126 (by simp) ?_ (by simp) (fun e R' hR => ?_) (.inl rfl) ?_
        . simp -implicitDefEqProofs only [sR', Nat.reduceEqDiff, ↓reduceIte]
        . simp -implicitDefEqProofs only [aR', go_sem]
        simp -implicitDefEqProofs only [cR', go_sem]
        have hs5 := q10o (cs := cs) hl j4 4
        generalize q10m cs f 4 = z at hs5 ⊢
        obtain ⟨y, f2⟩ := z
        simp only [] at hs5 ⊢
        refine ⟨?_, (q09v.refl _ _ _).upd _ (.inl (by simp))⟩
        refine ⟨by omega, by omega, by omega, ?_⟩
        refine q006.ref (q10p cs hc hl f2 hs5 4 (by omega)) [1000000000] [] rfl Try.call126 (by simp) ?_ (by simp) ?_ (.inl rfl) ?_
        . simp -implicitDefEqProofs only [sR', Nat.reduceEqDiff, ↓reduceIte]
        . simp -implicitDefEqProofs only [aR', go_sem]
        simp -implicitDefEqProofs only [cR', go_sem]
        have hs6 := q10o (cs := cs) hl hs5 4
        generalize q10m cs f2 4 = z at hs6 ⊢
        obtain ⟨y2, f3⟩ := z
        simp only [] at hs6 ⊢
        have hany : ((w'.map intsO).set i T.any)[i]? = some .any := by rw [List.getElem?_set_self (by rw [List.length_map]; omega)]
        have hany2 : ((v'.map intsO).set i T.any)[i]? = some .any := by rw [List.getElem?_set_self (by rw [List.length_map]; omega)]
        have hrow : ((w'.map intsO).set i T.any).set i (.arr 1 ((r0.map T.i).set j (.i y))) = (w'.set i (r0.set j y)).map intsO := by
          rw [List.set_set, List.map_set, intsO, List.map_set]
        refine ⟨fun hz => ?_, fun hz => ?_⟩
        . refine ⟨_, Weak.trans (Weak.close1 501 i 502 rfl rfl (by decide) hany) (Weak.trans (Weak.close1 4 1 501 rfl rfl (by decide) rfl) (Weak.trans (Weak.open 4 2 503 rfl rfl rfl (by decide) rfl) (Weak.open 503 i 504 (l := v'.map intsO) (lk := []) (c := intsO s0) rfl (by rw [List.getElem?_map, hs0]; rfl) rfl (by decide) rfl))), ?_⟩
          simp -implicitDefEqProofs only [eR', go_sem, List.lookup_cons, beq_self_eq_true, intsO, List.length_set]
          refine ⟨by omega, by omega, by omega, ?_⟩
          refine q002.ref (q10p cs hc hl f3 hs6 3 (by omega)) [1000000000] [] rfl Try.call126 (by simp) ?_ (by simp) (fun e R' hR => ?_) (.inl rfl) ?_
          . simp -implicitDefEqProofs only [sR', Nat.reduceEqDiff, ↓reduceIte]
          . simp -implicitDefEqProofs only [aR', go_sem]
          simp -implicitDefEqProofs only [cR', go_sem]
          have hs7 := q10o (cs := cs) hl hs6 3
          generalize q10m cs f3 3 = z at hs7 ⊢
          obtain ⟨y3, f4⟩ := z
          simp only [] at hs7 ⊢
          have hrow2 : ((v'.map intsO).set i T.any).set i (.arr 1 ((s0.map T.i).set j (.i (IntKind.i64.wrap (y3 - 1))))) = (v'.set i (s0.set j (IntKind.i64.wrap (y3 - 1)))).map intsO := by
            rw [List.set_set, List.map_set, intsO, List.map_set]
          refine ⟨?_, (q09v.refl _ _ _).upd _ (.inl (by simp))⟩
          refine ⟨by omega, by omega, by omega, ?_⟩
          refine hn2 _ (j + 1, (w'.set i (r0.set j y), v'.set i (s0.set j (IntKind.i64.wrap (y3 - 1)))), f4) (Weak.trans (Weak.close1 503 i 504 rfl rfl (by decide) hany2) (Weak.trans (Weak.close1 4 2 503 rfl rfl (by decide) rfl) (Weak.o _ _ [some 1000000000, some 2, some 4] ?_ ?_))) ⟨by omega, q10k j2 _ (by rw [List.length_set]; exact hr0l), q10k j3 _ (by rw [List.length_set]; exact hs0l), hs7⟩ (by show k - (j + 1) < k - j; omega)
          . simp -implicitDefEqProofs only [wR', Nat.reduceBEq, Nat.reduceEqDiff, ↓reduceIte, q0m0, q0lb h8 (by omega)]
          . refine ⟨⟨_, rfl, .refl _⟩, rfl, ⟨_, rfl, .refl _⟩, rfl, ⟨_, rfl, ?_⟩, rfl, trivial⟩
            have hrow1 : (w'.map intsO).set i (.arr 1 ((r0.map T.i).set j (.i y))) = (w'.set i (r0.set j y)).map intsO := by rw [List.map_set, intsO, List.map_set]
            rw [hrow2, hrow1]; exact .refl _
        . refine hn2 _ (j + 1, (w'.set i (r0.set j y), v'), f3) (Weak.trans (Weak.close1 501 i 502 rfl rfl (by decide) hany) (Weak.trans (Weak.close1 4 1 501 rfl rfl (by decide) rfl) (Weak.o _ _ [some 1000000000, some 2, some 4] ?_ ?_))) ⟨by omega, q10k j2 _ (by rw [List.length_set]; exact hr0l), j3, hs6⟩ (by show k - (j + 1) < k - j; omega)
          . simp -implicitDefEqProofs only [wR', Nat.reduceBEq, Nat.reduceEqDiff, ↓reduceIte, q0m0, q0lb h8 (by omega)]
          . refine ⟨⟨_, rfl, .refl _⟩, rfl, ⟨_, rfl, .refl _⟩, rfl, ⟨_, rfl, ?_⟩, rfl, trivial⟩
            rw [hrow]; exact .refl _
      . simp -implicitDefEqProofs only [eR', go_sem, q0m0, q0qa, decide_eq_false (show ¬ (j : Int) < (k : Int) by omega)]
        refine he2 _ _ ?_
        simp -implicitDefEqProofs only [eR', go_sem, q0m0, q0qa]
        refine hn _ (i + 1, (w', v'), f) (Weak.o _ _ [some 1000000000, some 2, some 4] ?_ ?_) ⟨by omega, j2, j3, j4⟩ (by show k - (i + 1) < k - i; omega)
        . simp -implicitDefEqProofs only [wR', Nat.reduceBEq, Nat.reduceEqDiff, ↓reduceIte, q0m0, q0lb h9 (by omega)]
        . exact ⟨⟨_, rfl, .refl _⟩, rfl, ⟨_, rfl, .refl _⟩, rfl, ⟨_, rfl, .refl _⟩, rfl, trivial⟩
    . simp -implicitDefEqProofs only [eR', go_sem, q0m0, q0qa, decide_eq_false (show ¬ (i : Int) < (k : Int) by omega)]
      refine he _ _ ?_
      simp -implicitDefEqProofs only [eR', go_sem, q0m0, q0qa]
      obtain ⟨r0, hr0, hr0l⟩ := q10j i2 (a := 0) (by omega)
      obtain ⟨y, hy⟩ : ∃ y, r0[0]? = some y := ⟨_, List.getElem?_eq_getElem (by omega)⟩
      have hwl : w.length = k := i2.1
      refine ⟨_, Weak.trans (Weak.open 4 1 501 rfl rfl rfl (by decide) rfl) (Weak.open 501 0 502 (l := w.map intsO) (lk := []) (c := intsO r0) rfl (by rw [List.getElem?_map, hr0]; rfl) rfl (by decide) rfl), ?_⟩
      simp -implicitDefEqProofs only [eR', go_sem, List.lookup_cons, beq_self_eq_true, intsO, List.length_set, hy]
      have hany : ((w.map intsO).set 0 T.any)[0]? = some .any := by rw [List.getElem?_set_self (by rw [List.length_map]; omega)]
      refine ⟨by omega, by omega, by omega, by omega, by omega, by omega, by omega, by omega, _, Weak.trans (Weak.close1 501 0 502 rfl rfl (by decide) hany) (Weak.close1 4 1 501 rfl rfl (by decide) rfl), ?_⟩
      simp -implicitDefEqProofs only [eR', go_sem, opR, Nat.reduceBEq, List.set_set]
      refine ⟨(⟨g.nd, w.set 0 (r0.set 0 (max 1 y)), v⟩, e), rfl, ?_, ⟨⟨by have := hx1.1; show g.nd.length <= 101; omega, hx1.2⟩, k, by omega, by omega, q10k i2 _ (by rw [List.length_set]; exact hr0l), i3⟩, i4⟩
      simp only [List.map_set, intsO]
def q0z3 (b : Bool) (g : Gm) : T := .agg [if b then nodes g.nd else .arr 5 (chunk q0lu g.nd), rows g.w, rows g.v]
theorem q128 (cs : List Int) (hc : q161 cs) (hl : cs.length <= 100000000000) (a : Nat × Int) (ha : q0qx a) : Fun Try.prog 190 [.box [bytes cs, .i a.1, .i a.2]] [.own 1000000000] fun o r => ∃ x : (Gm × Bool) × (Nat × Int), o = [.box [bytes cs, .i x.2.1, .i x.2.2]] /\ r = q0z3 x.1.2 x.1.1 /\ (q11q x.1.1 /\ q0qx x.2) := by
  refine q0zu (by simp) ?_
  simp -implicitDefEqProofs only [eR', go_sem, q0yp]
  have hp0 := q12b cs hc hl a ha
  simp only [q0m0, q0qa] at hp0
  refine q006.exi hp0 [1000000000] [] rfl Try.call222 (by simp) ?_ (by simp) ?_ (.inl rfl) (fun x hx => ?_)
  . simp -implicitDefEqProofs only [sR', Nat.reduceEqDiff, ↓reduceIte]
  . simp -implicitDefEqProofs only [aR', go_sem]
  simp -implicitDefEqProofs only [cR', go_sem, opR, Nat.reduceBEq]
  obtain ⟨g, e⟩ := x
  obtain ⟨⟨hx1, K, hK1, hK2, hw, hv⟩, hx3⟩ := hx
  (try simp only [] at hx1 hx3 hw hv)
  have hwl := hw.1
  have hvl := hv.1
  (try simp only [])
  refine q006.ref (q10p cs hc hl e hx3 g.w.length (by omega)) [1000000000] [] rfl Try.call126 (by simp) ?_ (by simp) ?_ (.inl rfl) ?_
  . simp -implicitDefEqProofs only [sR', Nat.reduceEqDiff, ↓reduceIte]
  . simp -implicitDefEqProofs only [aR', go_sem]
  simp -implicitDefEqProofs only [cR', go_sem]
  have hs1 := q10o (cs := cs) hl hx3 g.w.length
  have hb1 := q10n (cs := cs) (a := e) (n := g.w.length) (by omega)
  generalize q10m cs e g.w.length = z at hs1 hb1 ⊢
  obtain ⟨k, b⟩ := z
  simp only [] at hs1 hb1 ⊢
  obtain ⟨k, rfl⟩ : ∃ n : Nat, k = n := ⟨k.toNat, by omega⟩
  refine q006.ref (q10p cs hc hl b hs1 24 (by omega)) [1000000000] [] rfl Try.call126 (by simp) ?_ (by simp) ?_ (.inl rfl) ?_
  . simp -implicitDefEqProofs only [sR', Nat.reduceEqDiff, ↓reduceIte]
  . simp -implicitDefEqProofs only [aR', go_sem]
  simp -implicitDefEqProofs only [cR', go_sem, List.lookup_cons, beq_self_eq_true]
  have hs2 := q10o (cs := cs) hl hs1 24
  generalize q10m cs b 24 = z at hs2 ⊢
  obtain ⟨q, c⟩ := z
  simp only [] at hs2 ⊢
  obtain ⟨r0, hr0, hr0l⟩ := q10j hw (a := k) (by omega)
  obtain ⟨s0, hs0, hs0l⟩ := q10j hv (a := k) (by omega)
  have hsm := q0z2 (g := g) ⟨hx1, K, hK1, hK2, hw, hv⟩
  have hany : ((g.w.map intsO).set k T.any)[k]? = some .any := by rw [List.getElem?_set_self (by rw [List.length_map]; omega)]
  have hany2 : ((g.v.map intsO).set k T.any)[k]? = some .any := by rw [List.getElem?_set_self (by rw [List.length_map]; omega)]
  refine ⟨fun q0 => ?_, fun q0 => ⟨fun q1 => ?_, fun q1 => ⟨fun q2 => ?_, fun q2 => ⟨fun q3 => ?_, fun q3 => ?_⟩⟩⟩⟩
  . refine ⟨_, Weak.open 9 k 502 (l := g.w.map intsO) (lk := []) (c := intsO r0) rfl (by rw [List.getElem?_map, hr0]; rfl) rfl (by decide) rfl, ?_⟩
    simp -implicitDefEqProofs only [eR', go_sem, List.lookup_cons, beq_self_eq_true, intsO, List.length_set]
    have hp := q117 cs hc hl c hs2 [-1, 0, 9, 10] (by simp) (by simp)
    simp only [intsO, List.map_cons, List.map_nil] at hp
    refine ⟨by omega, by omega, by omega, ?_⟩
    refine q002.ref hp [1000000000, 22] [] rfl Try.call147 (by simp) ?_ (by simp) (fun e R' hR => ?_) (.inl rfl) ?_
    . simp -implicitDefEqProofs only [sR', Nat.reduceEqDiff, ↓reduceIte]
    . simp -implicitDefEqProofs only [aR', go_sem]
    simp -implicitDefEqProofs only [cR', go_sem]
    have hs3 := q116 (cs := cs) hl hs2 [-1, 0, 9, 10]
    generalize q115 cs c [-1, 0, 9, 10] = z at hs3 ⊢
    obtain ⟨v, d⟩ := z
    simp only [] at hs3 ⊢
    have hrow : ((g.w.map intsO).set k T.any).set k (.arr 1 ((r0.map T.i).set 0 (.i v))) = (g.w.set k (r0.set 0 v)).map intsO := by
      rw [List.set_set, List.map_set, intsO, List.map_set]
    refine ⟨?_, ((q09v.refl _ _ _).upd _ (.inl (by simp))).upd _ (.inl (by simp))⟩
    refine ⟨by omega, by omega, _, Weak.trans (Weak.close1 9 k 502 rfl rfl (by decide) hany) (Weak.trans (Weak.close1 3 1 9 rfl rfl (by decide) rfl) (Weak.trans (Weak.share 3 rfl) (Weak.o [(0, .own 1000000000), (2, .own 2), (3, .t (.pin [nodes g.nd, rows (g.w.set k (r0.set 0 v)), rows g.v] 0))] [(1000000000, .box [bytes cs, .i d.1, .i d.2]), (2, .box [.v (.slice none 0 0), .v (.slice none 0 0), .v (.slice none 0 0)])] [some 1000000000, some 2] ?_ ?_))), ?_⟩
    . simp -implicitDefEqProofs only [wR', Nat.reduceBEq, Nat.reduceEqDiff, ↓reduceIte, q0rg, T.toSh, T.toShL, q12g, q0vg, nodes, List.set_cons_succ, List.set_cons_zero, hrow]
    . exact ⟨⟨_, rfl, .refl _⟩, rfl, ⟨_, rfl, .refl _⟩, rfl, trivial⟩
    simp -implicitDefEqProofs only [eR', go_sem, nodes]
    exact ⟨((⟨g.nd, g.w.set k (r0.set 0 v), g.v⟩, true), d), rfl, rfl, q0z2 ⟨hx1, K, hK1, hK2, q10k hw _ (by rw [List.length_set]; exact hr0l), hv⟩, hs3⟩
  . refine ⟨_, Weak.trans (Weak.open 3 2 503 rfl rfl rfl (by decide) rfl) (Weak.open 503 k 504 (l := g.v.map intsO) (lk := []) (c := intsO s0) rfl (by rw [List.getElem?_map, hs0]; rfl) rfl (by decide) rfl), ?_⟩
    simp -implicitDefEqProofs only [eR', go_sem, List.lookup_cons, beq_self_eq_true, intsO, List.length_set]
    have hp := q117 cs hc hl c hs2 [-2, 2] (by simp) (by simp)
    simp only [intsO, List.map_cons, List.map_nil] at hp
    refine ⟨by omega, by omega, by omega, ?_⟩
    refine q002.ref hp [1000000000, 33] [] rfl Try.call147 (by simp) ?_ (by simp) (fun e R' hR => ?_) (.inl rfl) ?_
    . simp -implicitDefEqProofs only [sR', Nat.reduceEqDiff, ↓reduceIte]
    . simp -implicitDefEqProofs only [aR', go_sem]
    simp -implicitDefEqProofs only [cR', go_sem]
    have hs3 := q116 (cs := cs) hl hs2 [-2, 2]
    generalize q115 cs c [-2, 2] = z at hs3 ⊢
    obtain ⟨v, d⟩ := z
    simp only [] at hs3 ⊢
    have hrow : ((g.v.map intsO).set k T.any).set k (.arr 1 ((s0.map T.i).set 0 (.i v))) = (g.v.set k (s0.set 0 v)).map intsO := by
      rw [List.set_set, List.map_set, intsO, List.map_set]
    refine ⟨?_, ((q09v.refl _ _ _).upd _ (.inl (by simp))).upd _ (.inl (by simp))⟩
    refine ⟨by omega, by omega, _, Weak.trans (Weak.close1 503 k 504 rfl rfl (by decide) hany2) (Weak.trans (Weak.close 3 2 503 rfl rfl (by decide) rfl (by simp)) (Weak.trans (Weak.close1 3 1 9 rfl rfl (by decide) rfl) (Weak.trans (Weak.share 3 rfl) (Weak.o [(0, .own 1000000000), (2, .own 2), (3, .t (.pin [nodes g.nd, rows g.w, rows (g.v.set k (s0.set 0 v))] 0))] [(1000000000, .box [bytes cs, .i d.1, .i d.2]), (2, .box [.v (.slice none 0 0), .v (.slice none 0 0), .v (.slice none 0 0)])] [some 1000000000, some 2] ?_ ?_)))), ?_⟩
    . simp -implicitDefEqProofs only [wR', Nat.reduceBEq, Nat.reduceEqDiff, ↓reduceIte, q0rg, T.toSh, T.toShL, q12g, q0vg, nodes, List.set_cons_succ, List.set_cons_zero, hrow]
    . exact ⟨⟨_, rfl, .refl _⟩, rfl, ⟨_, rfl, .refl _⟩, rfl, trivial⟩
    simp -implicitDefEqProofs only [eR', go_sem, nodes]
    exact ⟨((⟨g.nd, g.w, g.v.set k (s0.set 0 v)⟩, true), d), rfl, rfl, q0z2 ⟨hx1, K, hK1, hK2, hw, q10k hv _ (by rw [List.length_set]; exact hs0l)⟩, hs3⟩
  . refine ⟨_, Weak.trans (Weak.close1 3 1 9 rfl rfl (by decide) rfl) (Weak.trans (Weak.share 3 rfl) (Weak.o [(0, .own 1000000000), (2, .own 2), (3, .t (.pin [nodes g.nd, rows g.w, rows g.v] 0))] [(1000000000, .box [bytes cs, .i c.1, .i c.2]), (2, .box [.v (.slice none 0 0), .v (.slice none 0 0), .v (.slice none 0 0)])] [some 1000000000, some 2] ?_ ?_)), ?_⟩
    . simp -implicitDefEqProofs only [wR', Nat.reduceBEq, Nat.reduceEqDiff, ↓reduceIte, q0rg, T.toSh, T.toShL, q12g, q0vg, nodes, List.set_cons_succ, List.set_cons_zero]
    . exact ⟨⟨_, rfl, .refl _⟩, rfl, ⟨_, rfl, .refl _⟩, rfl, trivial⟩
    simp -implicitDefEqProofs only [eR', go_sem, nodes]
    refine ⟨by omega, by omega, ((⟨g.nd, g.w, g.v.drop 1⟩, true), c), rfl, ?_, ⟨hsm.1, hsm.2.1, hsm.2.2.1, by show (g.v.drop 1).length <= 4; rw [List.length_drop]; omega, fun r hr => hsm.2.2.2.2 r (List.mem_of_mem_drop hr)⟩, hs2⟩
    rw [List.take_of_length_le (by rw [List.length_drop, List.length_map]; omega), ← List.map_drop]; rfl
  . refine ⟨_, Weak.trans (Weak.close1 3 1 9 rfl rfl (by decide) rfl) (Weak.trans (Weak.share 3 rfl) (Weak.o [(0, .own 1000000000), (2, .own 2), (3, .t (.pin [nodes g.nd, rows g.w, rows g.v] 0))] [(1000000000, .box [bytes cs, .i c.1, .i c.2]), (2, .box [.v (.slice none 0 0), .v (.slice none 0 0), .v (.slice none 0 0)])] [some 1000000000, some 2] ?_ ?_)), ?_⟩
    . simp -implicitDefEqProofs only [wR', Nat.reduceBEq, Nat.reduceEqDiff, ↓reduceIte, q0rg, T.toSh, T.toShL, q12g, q0vg, nodes, List.set_cons_succ, List.set_cons_zero]
    . exact ⟨⟨_, rfl, .refl _⟩, rfl, ⟨_, rfl, .refl _⟩, rfl, trivial⟩
    simp -implicitDefEqProofs only [eR', go_sem, nodes]
    obtain ⟨⟨⟨l2, bb⟩, d⟩, ⟨hy1, hy2⟩, hT⟩ := q122 cs hc hl c hs2
    (try simp only [] at hy1 hy2 hT)
    cases bb
    . simp only [q0z4, Bool.false_eq_true, if_false] at hT
      refine q002.ref hT [1000000000] [] rfl Try.call223 (by simp) ?_ (by simp) (fun e R' hR => ?_) (.inl rfl) ?_
      . simp -implicitDefEqProofs only [sR', Nat.reduceEqDiff, ↓reduceIte]
      . simp -implicitDefEqProofs only [aR', go_sem]
      simp -implicitDefEqProofs only [cR', go_sem]
      exact ⟨⟨((⟨l2, g.w, g.v⟩, false), d), rfl, rfl, ⟨hy1, hsm.2⟩, hy2⟩, ((q09v.refl _ _ _).upd _ (.inl (by simp))).upd _ (.inr rfl)⟩
    . simp only [q0z4, if_true, nodes] at hT
      refine q002.ref hT [1000000000] [] rfl Try.call223 (by simp) ?_ (by simp) (fun e R' hR => ?_) (.inl rfl) ?_
      . simp -implicitDefEqProofs only [sR', Nat.reduceEqDiff, ↓reduceIte]
      . simp -implicitDefEqProofs only [aR', go_sem]
      simp -implicitDefEqProofs only [cR', go_sem]
      exact ⟨⟨((⟨l2, g.w, g.v⟩, true), d), rfl, rfl, ⟨hy1, hsm.2⟩, hy2⟩, (q09v.refl _ _ _).upd _ (.inl (by simp))⟩
  . refine ⟨_, Weak.trans (Weak.close1 3 1 9 rfl rfl (by decide) rfl) (Weak.trans (Weak.share 3 rfl) (Weak.o [(0, .own 1000000000), (2, .own 2), (3, .t (.pin [nodes g.nd, rows g.w, rows g.v] 0))] [(1000000000, .box [bytes cs, .i c.1, .i c.2]), (2, .box [.v (.slice none 0 0), .v (.slice none 0 0), .v (.slice none 0 0)])] [some 1000000000, some 2] ?_ ?_)), ?_⟩
    . simp -implicitDefEqProofs only [wR', Nat.reduceBEq, Nat.reduceEqDiff, ↓reduceIte, q0rg, T.toSh, T.toShL, q12g, q0vg, nodes, List.set_cons_succ, List.set_cons_zero]
    . exact ⟨⟨_, rfl, .refl _⟩, rfl, ⟨_, rfl, .refl _⟩, rfl, trivial⟩
    simp -implicitDefEqProofs only [eR', go_sem, nodes]
    exact ⟨((g, true), c), rfl, rfl, hsm, hs2⟩
end
def q0rk (g : Gm) (pl : Int) : List Int := (List.range (sets g pl).length).map fun i => (q0rh g pl i : Int)
theorem q0rm (g : Gm) (pl : Int) : (q0rk g pl).length = (sets g pl).length := by simp [q0rk]
theorem q0rl {g : Gm} {pl : Int} {i : Nat} (h : i < (sets g pl).length) : (q0rk g pl)[i]? = some (q0rh g pl i : Int) := by simp [q0rk, h]
theorem q0rn {g : Gm} {pl : Int} {i : Nat} (h : i < (sets g pl).length) : (q0rk g pl).take (i + 1) = (q0rk g pl).take i ++ [(q0rh g pl i : Int)] := q0uj (q0rl h)
section
attribute [-go_sem] q0i5 q0id fldC lenC idxC q0ip q0lp
theorem q0sj (g : Gm) (pl : Int) (hl : g.nd.length <= 60) (hk : g.w.length <= 6) : Fun Try.prog 196 [] [.t (.agg [.sh 5 (chunk q0lu g.nd), .sh 1 (g.w.map ints), .sh 1 (g.v.map ints)]), .t (.i pl)] fun o r => o = [] /\ r = intsO (q0rk g pl) := by
  refine q0bx (by simp) ?_
  simp -implicitDefEqProofs only [eR', go_sem, q04z]
  have hsl := q0re g pl hl hk
  have hp := q0h9 g pl hl hk
  simp only [q0qa] at hp
  refine q006.res hp [] rfl Try.call186 ?_ (.inl rfl) ?_
  . simp -implicitDefEqProofs only [aR', go_sem]
  simp -implicitDefEqProofs only [cR', go_sem]
  refine SemC.loopR (σ := Nat) (fun i => St.of [(2, .own 2), (5, .t (rows (sets g pl))), (6, .own 96), (7, .t (.i i))] [(2, .box [.sh 5 (chunk q0lu g.nd), .sh 1 (g.w.map ints), .sh 1 (g.v.map ints)]), (96, intsO ((q0rk g pl).take i))]) (fun i => i <= (sets g pl).length) (fun i => (sets g pl).length - i) 0 (Weak.trans (Weak.share 10 rfl) (Weak.o _ _ [some 2, some 11] ?_ ?_)) (by simp) fun i hi R hn hr he => ?_
  . simp -implicitDefEqProofs only [wR', Nat.reduceBEq, Nat.reduceEqDiff, ↓reduceIte, q0rg, T.toSh, q0vg]
  . exact ⟨⟨_, rfl, .refl _⟩, rfl, ⟨_, rfl, .refl _⟩, rfl, trivial⟩
  rcases Nat.lt_or_ge i (sets g pl).length with h9 | h9
  . obtain ⟨n, c, x, hs, hx, hn1, hc1, hxp, hsz⟩ := q0qz h9
    have hlt : ((q0rk g pl).take i).length = i := by rw [List.length_take, q0rm]; omega
    simp -implicitDefEqProofs only [eR', go_sem, intsO, decide_eq_true (show (i : Int) < ((sets g pl).length : Int) by omega), hs, q0kz hx, Option.map_some, Option.getD_some]
    refine ⟨by omega, by omega, by omega, by omega, by rw [q0l0]; omega, by rw [q0l0]; omega, by omega, hn _ (i + 1) (Weak.o _ _ [some 2, some 33] ?_ ?_) (by omega) (by omega)⟩
    . simp -implicitDefEqProofs only [wR', Nat.reduceBEq, Nat.reduceEqDiff, ↓reduceIte, q0lb h9 (by omega)]
    . refine ⟨⟨_, rfl, .refl _⟩, rfl, ⟨_, rfl, ?_⟩, rfl, trivial⟩
      rw [q0rn h9, hsz, intsO, List.map_append]; exact .refl _
  . simp -implicitDefEqProofs only [eR', go_sem, decide_eq_false (show ¬ (i : Int) < ((sets g pl).length : Int) by omega)]
    refine he _ _ ?_
    simp -implicitDefEqProofs only [eR', go_sem, intsO]
    rw [List.take_of_length_le (by rw [q0rm]; exact h9)]
theorem q0ri {g : Gm} (hg : q0fl g = true) {pl : Int} (hpl : pl = 0 ∨ pl = 1) {i : Nat} (h : i < (sets g pl).length) : 1 <= q0rh g pl i /\ q0rh g pl i <= 4 := by
  obtain ⟨n, c, x, hs, hx, hn1, hc1, hxp, hsz⟩ := q0qz h
  obtain ⟨p1, p2, p3, p4, p5⟩ := q0fn hg
  obtain ⟨t1, t2, t3, t4⟩ := q0g0 p1
  obtain ⟨-, -, -, -, f1, f2⟩ := q0ks (t2 _ _ hx)
  rw [hsz]
  exact ⟨(f1 (by omega)).2, f2⟩
end
end Go.Ab
