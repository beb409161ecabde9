/- The average strategies behind no iteration are the uniform ones, and trained strategies are strategies: the law FnTrained returns true for every list of bytes. No conditions. -/
import Derived.Test.YtkmmkgpnlmdcfaaRows
import Derived.Test.YtkmmkgpnlmdcfaaQ6
set_option linter.unusedSimpArgs false
set_option linter.unusedVariables false
set_option maxRecDepth 20000
/- Contracts: an iteration of the program. -/
namespace Go.Ab
open Go.Proofs
def pwrK (l : List Nd) (ch : List Int) (k : Nat) : Int := (ch.take k).foldl (fun d (c : Int) => max d (dep l l.length c.toNat)) 0
theorem q0oo {l : List Nd} {ch : List Int} {k : Nat} {c : Int} (h : ch[k]? = some c) : pwrK l ch (k + 1) = max (pwrK l ch k) (dep l l.length c.toNat) := by
  simp only [pwrK, q0uj h, List.foldl_append, List.foldl_cons, List.foldl_nil]
theorem q0om {g : Gm} (hg : q0fl g = true) {n : Nat} (hn : n < g.nd.length) (h2 : (g.nd.getD n nd0).p ≠ 2) : pwrK g.nd (g.nd.getD n nd0).ch (g.nd.getD n nd0).ch.length = q144 g n := by
  obtain ⟨p1, p2, p3, p4, p5⟩ := q0fn hg
  obtain ⟨t1, t2, t3, t4⟩ := q0g0 p1
  obtain ⟨e1, e2, e3⟩ := q145 hg hn h2
  have hx : g.nd[n]? = some (g.nd.getD n nd0) := by rw [List.getD_eq_getElem?_getD, List.getElem?_eq_getElem hn]; rfl
  have hch := q0kp (t2 n _ hx)
  obtain ⟨F, hF⟩ : ∃ F, g.nd.length = F + 1 := ⟨g.nd.length - 1, by omega⟩
  have e4 : dep g.nd (F + 1) n = ((g.nd.getD n nd0).ch.foldl (fun d c => max d (dep g.nd F c.toNat)) 0) + 1 := by
    rw [dep]; exact if_neg h2
  rw [hF, e4] at e2
  have e5 : (g.nd.getD n nd0).ch.foldl (fun d (c : Int) => max d (dep g.nd g.nd.length c.toNat)) 0 = (g.nd.getD n nd0).ch.foldl (fun d c => max d (dep g.nd F c.toNat)) 0 := by
    refine q09m _ _ fun b c hc => ?_
    have := hch c hc
    rw [q07y t2 g.nd.length F c.toNat (by omega) (by omega)]
  rw [pwrK, List.take_of_length_le (Nat.le_refl _), e5]
  omega
theorem q0on {g : Gm} (hg : q0fl g = true) {n : Nat} (hn : n < g.nd.length) (h2 : (g.nd.getD n nd0).p ≠ 2) (k : Nat) : 0 <= pwrK g.nd (g.nd.getD n nd0).ch k /\ pwrK g.nd (g.nd.getD n nd0).ch k <= 4 := by
  obtain ⟨e1, e2, e3⟩ := q145 hg hn h2
  unfold pwrK
  have h : ∀ (cs : List Int) (a : Int), (∀ c ∈ cs, dep g.nd g.nd.length c.toNat <= 4) -> 0 <= a /\ a <= 4 -> 0 <= cs.foldl (fun d (c : Int) => max d (dep g.nd g.nd.length c.toNat)) a /\ cs.foldl (fun d (c : Int) => max d (dep g.nd g.nd.length c.toNat)) a <= 4 := by
    intro cs
    induction cs with
    | nil => intro a _ h; exact h
    | cons c cs ih => intro a h ha; exact ih _ (fun c' hc' => h c' (by simp [hc'])) (by have := h c (by simp); show 0 <= max a (dep g.nd g.nd.length c.toNat) /\ max a (dep g.nd g.nd.length c.toNat) <= 4; omega)
  exact h _ _ (fun c hc => by have := (e3 c (List.mem_of_mem_take hc)).2.2; omega) (by omega)
def cntW (g : Gm) (s t : List (List Int)) (pl : Int) (n c m : Nat) : List Int := (g.nd.getD n nd0).ch.map fun k => cntN g s t pl n c k.toNat m
theorem q06q (g : Gm) (s t : List (List Int)) (pl : Int) (n c m : Nat) : (cntW g s t pl n c m).length = (g.nd.getD n nd0).ch.length := by simp [cntW]
theorem q06p {g : Gm} {s t : List (List Int)} {pl : Int} {n c m k : Nat} {x : Int} (h : (g.nd.getD n nd0).ch[k]? = some x) : (cntW g s t pl n c m)[k]? = some (cntN g s t pl n c x.toNat m) := by rw [cntW, List.getElem?_map, h]; rfl
theorem q06s (g : Gm) (s t : List (List Int)) (pl : Int) (n c : Nat) : cntW g s t pl n c 0 = List.replicate (g.nd.getD n nd0).ch.length 0 := by
  unfold cntW
  generalize (g.nd.getD n nd0).ch = l
  induction l with
  | nil => rfl
  | cons x l ih => rw [List.map_cons, ih]; rfl
theorem q06r {g : Gm} {s t : List (List Int)} {pl : Int} {n c m : Nat} (h : rchW g s t pl n c m = 0) : cntW g s t pl n c (m + 1) = cntW g s t pl n c m := by
  unfold cntW
  refine List.map_congr_left fun k _ => ?_
  rw [q148, cntF, h, Int.zero_mul, Int.add_zero]
theorem q0r2 {α : Type} {l : List α} {i : Nat} {x : α} (h : l[i]? = some x) : l.set i x = l := by
  obtain ⟨h1, rfl⟩ := List.getElem?_eq_some_iff.1 h
  exact List.set_getElem_self h1
def evT (g : Gm) (s t : List (List Int)) : T := .pin [.sh 5 (chunk q0lu g.nd), .sh 1 (g.w.map ints), .sh 1 (g.v.map ints), .sh 1 ((ownL g 0).map T.i), .sh 1 ((ownL g 1).map T.i), .sh 1 (s.map ints), .sh 1 (t.map ints), .sh 1 ((parN g.nd g.nd.length).map T.i)] 0
section
attribute [-go_sem] q0i5 q0id fldC lenC idxC q0ip q0lp
set_option maxHeartbeats 2000000 in
theorem q0f4 {g : Gm} (hg : q0fl g = true) {s t : List (List Int)} (hs : q0nw g s 0) (ht : q0nw g t 1) {R Z U V : List (List Int)} {B : Int} (hR : okM g 0 B R) (hZ : okM g 0 B Z) (hB : B <= 30000000000000000) {i : Nat} (hi : i < (sets g 0).length) :
    Fun Try.prog 210 [.box [nodes g.nd, rows g.w, rows g.v, q0qa R, q0qa U, q0qa Z, q0qa V]] [.own 1000000000, .t (evT g s t), .t (.i 0), .t (.i i), .t (.i (setN g 0 i)), .t (.i (setC g 0 i))] fun o q => o = [.box [nodes g.nd, rows g.w, rows g.v, q0qa (R.set i (rowR g s t 0 R i)), q0qa U, q0qa (Z.set i (rowS g s t 0 Z i)), q0qa V]] /\ q = .tup [] := by
  obtain ⟨p1, p2, p3, p4, p5⟩ := q0fn hg
  obtain ⟨t1, t2, t3, t4⟩ := q0g0 p1
  obtain ⟨a1, a2, a3, a4, a5, a6⟩ := q15l hi
  obtain ⟨r, hr, hr', hrl, hrb⟩ := q150 hR hi
  obtain ⟨z, hz, hz', hzl, hzb⟩ := q150 hZ hi
  obtain ⟨w1, w2, w3, w4⟩ := q14r hg ((.inl rfl) : (0 : Int) = 0 ∨ (0 : Int) = 1) (q153 hs ht (.inl rfl)).1 hi
  obtain ⟨f1, f2⟩ := q15f hg hs ht (.inl rfl) hR hi
  obtain ⟨f3, f4⟩ := q15g hg hs ht (.inl rfl) hZ hi
  have hmw : wayP g (q10l 0 s t) 0 (setC g 0 i) (setN g 0 i) = wayP g (q10l 0 s t) 0 (if (0 : Int) = 0 then setC g 0 i else setC g 0 i) (setN g 0 i) := by split <;> rfl
  have hRd : rowR g s t 0 R i = updR r (cnts g s t 0 (setN g 0 i) (setC g 0 i)) (q14l ((q10l 0 s t).getD i []) (cnts g s t 0 (setN g 0 i) (setC g 0 i))) := by rw [rowR, hr']
  have hSd : rowS g s t 0 Z i = updW z ((q10l 0 s t).getD i []) (wayP g (q10l 0 s t) 0 (setC g 0 i) (setN g 0 i)) := by rw [rowS, hz']
  generalize hqq : (q10l 0 s t).getD i [] = q at w1 w2 w3 w4 hRd hSd
  generalize setN g 0 i = n at a1 a2 a4 a5 hRd hSd hmw ⊢
  generalize setC g 0 i = c at a1 a3 hRd hSd hmw ⊢
  have hn := a2
  have hc := a3
  have h2 : (g.nd.getD n nd0).p ≠ 2 := by omega
  obtain ⟨e1, e2, e3⟩ := q145 hg hn h2
  have hpk := q0on hg hn h2
  have hpa := q0om hg hn h2
  obtain ⟨x, hx⟩ : ∃ x, g.nd[n]? = some x := ⟨_, List.getElem?_eq_getElem hn⟩
  have hxd : g.nd.getD n nd0 = x := by rw [List.getD_eq_getElem?_getD, hx]; rfl
  have hxl := (q0ks (t2 _ _ hx)).2.2.2.2.2
  have hch := q0kp (t2 n _ hx)
  have hcvl := q06q g s t 0 n c
  have hcvg : ∀ (k m : Nat) (y : Int), x.ch[k]? = some y -> (cntW g s t 0 n c m)[k]? = some (cntN g s t 0 n c y.toNat m) := fun k m y h => q06p (by rw [hxd]; exact h)
  have hcv0 := q06s g s t 0 n c
  have hcvA : cntW g s t 0 n c g.w.length = cnts g s t 0 n c := rfl
  rw [hxd] at e3 a5 hcv0 hpa hpk hcvl
  have hcb := q149 hg hs ht ((.inl rfl) : (0 : Int) = 0 ∨ (0 : Int) = 1) hn h2 hc
  have hcl := q14b g s t 0 n c
  rw [hxd] at hcl
  refine q0a6 (by simp) ?_
  simp -implicitDefEqProofs only [go_sem, evR, ints, rows, rat, rats, q038, nodes, q0qa, q0kz hx, opR, Nat.reduceBEq]
  repeat (first | refine ⟨by omega, ?_⟩ | refine ⟨by rw [q0l0]; omega, ?_⟩)
  refine SemC.loopR (σ := Nat) (fun k => St.of [(0, .own 1000000000), (1, .t (evT g s t)), (2, .t (.i 0)), (3, .t (.i i)), (4, .t (.i n)), (5, .t (.i c)), (12, .t (ints x.ch)), (13, .t (.i (pwrK g.nd x.ch k))), (41, .t (ints x.ch)), (42, .t (.i x.ch.length)), (43, .t (.i k))] [(1000000000, .box [nodes g.nd, rows g.w, rows g.v, q0qa R, q0qa U, q0qa Z, q0qa V])]) (fun k => k <= x.ch.length) (fun k => x.ch.length - k) 0 (Weak.of _ _ [some 1000000000] (by simp) (by simp) ?_ ?_) (by omega) fun k hk Q1 hn1 hr1 he1 => ?_
  · simp -implicitDefEqProofs only [ints, rows, Nat.reduceBEq, wkR, Nat.reduceEqDiff, ↓reduceIte, wrR, nodes, evT, show pwrK g.nd x.ch 0 = 0 from rfl]
  · exact ⟨⟨_, rfl, .refl _⟩, rfl, trivial⟩
  rcases Nat.lt_or_ge k x.ch.length with h9 | h9
  · obtain ⟨y, hy⟩ : ∃ y, x.ch[k]? = some y := ⟨_, List.getElem?_eq_getElem h9⟩
    obtain ⟨y0, y1, y2⟩ := e3 y (List.mem_of_getElem? hy)
    simp -implicitDefEqProofs only [go_sem, evR, ints, rows, rat, rats, nodes, q0qa, evT, hy, decide_eq_true (show (k : Int) < (x.ch.length : Int) by omega), opR, Nat.reduceBEq]
    repeat (first | refine ⟨by omega, ?_⟩ | refine ⟨by rw [q0l0]; omega, ?_⟩)
    have hd := q080 (q0ek t2 (by omega) g.nd.length y.toNat (by omega) y1 (by omega))
    rw [show ((y.toNat : Nat) : Int) = y by omega] at hd
    refine q006.pure hd [] rfl Try.call164 ?_ (by first | trivial | simp [T.noSh, T.noShL, rat]) rfl ?_
    · simp -implicitDefEqProofs only [agR, Nat.reduceLeDiff, Nat.reduceSub, vaR, go_sem, ints, rows, rat, rats, q0p1, rtR, intsO, q0qa]
    simp -implicitDefEqProofs only [go_sem, evR, ints, rows, rat, rats]
    refine hn1 _ (k + 1) (Weak.of _ _ [some 1000000000] (by simp) (by simp) ?_ ?_) (by omega) (by omega)
    · simp -implicitDefEqProofs only [ints, rows, Nat.reduceBEq, wkR, Nat.reduceEqDiff, ↓reduceIte, wrR, nodes, evT, q0lb h9 (show x.ch.length <= 1000000000000 by omega), q0oo hy]
    · exact ⟨⟨_, rfl, .refl _⟩, rfl, trivial⟩
  have hkl : k = x.ch.length := by omega
  subst hkl
  rw [hpa]
  simp -implicitDefEqProofs only [go_sem, evR, ints, rows, rat, rats, nodes, q0qa, evT, decide_eq_false (show ¬ (x.ch.length : Int) < (x.ch.length : Int) by omega), opR, Nat.reduceBEq]
  refine he1 _ _ ?_
  simp -implicitDefEqProofs only [go_sem, evR, ints, rows, rat, rats, q0jc, opR, Nat.reduceBEq]
  repeat (first | refine ⟨by omega, ?_⟩ | refine ⟨by rw [q0l0]; omega, ?_⟩)
  refine SemC.loopR (σ := Nat) (fun o => St.of [(0, .own 1000000000), (1, .t (evT g s t)), (2, .t (.i 0)), (3, .t (.i i)), (4, .t (.i n)), (5, .t (.i c)), (12, .t (ints x.ch)), (13, .t (.i (q144 g n))), (16, .own 98), (65, .t (.i g.w.length)), (66, .t (.i o))] [(1000000000, .box [nodes g.nd, rows g.w, rows g.v, q0qa R, q0qa U, q0qa Z, q0qa V]), (98, intsO (cntW g s t 0 n c o))]) (fun o => o <= g.w.length) (fun o => g.w.length - o) 0 (Weak.of _ _ [some 1000000000, some 59] (by simp) (by simp) ?_ ?_) (by omega) fun o ho Q2 hn2 hr2 he2 => ?_
  · simp -implicitDefEqProofs only [ints, rows, Nat.reduceBEq, wkR, Nat.reduceEqDiff, ↓reduceIte, wrR, nodes, evT]
  · refine ⟨⟨_, rfl, .refl _⟩, rfl, ⟨_, rfl, ?_⟩, rfl, trivial⟩
    rw [hcv0, intsO, List.map_replicate]; exact .refl _
  rcases Nat.lt_or_ge o g.w.length with h8 | h8
  · obtain ⟨rw0, zw, hr0, hzw, hz0, hz9⟩ := q0cn hg hc h8
    have hrwl : rw0.length = g.w.length := ((q0js.1 p3).2 rw0 (List.mem_of_getElem? hr0)).1
    have hwz : wAt g 0 c o = zw := by
      unfold wAt
      simp only [List.getD_eq_getElem?_getD, hr0, hzw, Option.getD_some, if_pos]
    have hot := (q153 hs ht ((.inl rfl) : (0 : Int) = 0 ∨ (0 : Int) = 1)).2
    have hr1' := q158 (c := c) hg hs ht ((.inl rfl) : (0 : Int) = 0 ∨ (0 : Int) = 1) hn h8
    have hpw := q157 (p := (wayL g.nd n).length) (by omega)
    have hcall := q0f8 hg hs ht ((.inr rfl) : (1 : Int) = 0 ∨ (1 : Int) = 1) (n := n) (a := c) (b := o) hn (by omega) (by omega)
    rw [show (if (1 : Int) = 0 then c else o) = o from rfl] at hcall
    have hrw : 1 * zw * wayP g (q10l 1 s t) 1 o n = rchW g s t 0 n c o := by rw [rchW, hwz]; rfl
    simp -implicitDefEqProofs only [go_sem, evR, ints, rows, rat, rats, nodes, q0qa, intsO, evT, hr0, hzw, decide_eq_true (show (o : Int) < (g.w.length : Int) by omega), show ((0 : Int) == 1) = false from rfl, show ((1 : Int) == 1) = true from rfl, show IntKind.i64.wrap (1 - 0) = 1 from rfl, show IntKind.i64.wrap (1 - 1) = 0 from rfl, opR, Nat.reduceBEq]
    repeat (first | refine ⟨by omega, ?_⟩ | refine ⟨by rw [q0l0]; omega, ?_⟩)
    refine q002.ref hcall [] [] rfl Try.call226 (by simp) ?_ (by simp) (fun e R' hR => ?_) (.inl rfl) ?_
    · simp -implicitDefEqProofs only [srR, Nat.reduceEqDiff, ↓reduceIte, ints, rows, intsO, q0qa]
    · simp -implicitDefEqProofs only [agR, Nat.reduceLeDiff, Nat.reduceSub, vaR, go_sem, ints, rows, rat, rats, q0p1, rtR, intsO, q0qa]
    simp -implicitDefEqProofs only [clR, Nat.reduceLeDiff, go_sem, evR, rat, wrap64 (n := 1 * zw) (by omega) (by omega), hrw, wrap64 (n := rchW g s t 0 n c o) (by omega) (by omega)]
    refine ⟨⟨fun h5 => ?_, fun h5 => ?_⟩, q09v.refl _ _ _⟩
    · have h5 : rchW g s t 0 n c o = 0 := by simpa using h5
      refine hn2 _ (o + 1) (Weak.of _ _ [some 1000000000, some 98] (by simp) (by simp) ?_ ?_) (by omega) (by omega)
      · simp -implicitDefEqProofs only [ints, rows, Nat.reduceBEq, wkR, Nat.reduceEqDiff, ↓reduceIte, wrR, nodes, evT, q0lb h8 (by omega)]
      · refine ⟨⟨_, rfl, .refl _⟩, rfl, ⟨_, rfl, ?_⟩, rfl, trivial⟩
        rw [q06r h5]; exact .refl _
    · refine SemC.loopR (σ := Nat) (fun k => St.of [(0, .own 1000000000), (1, .t (evT g s t)), (2, .t (.i 0)), (3, .t (.i i)), (4, .t (.i n)), (5, .t (.i c)), (12, .t (ints x.ch)), (13, .t (.i (q144 g n))), (16, .own 98), (18, .t (.i c)), (19, .t (.i o)), (21, .t (.i (rchW g s t 0 n c o))), (65, .t (.i g.w.length)), (66, .t (.i o)), (98, .t (ints x.ch)), (99, .t (.i x.ch.length)), (100, .t (.i k))] [(1000000000, .box [nodes g.nd, rows g.w, rows g.v, q0qa R, q0qa U, q0qa Z, q0qa V]), (98, intsO (mixL (cntW g s t 0 n c (o + 1)) (cntW g s t 0 n c o) k))]) (fun k => k <= x.ch.length) (fun k => x.ch.length - k) 0 (Weak.of _ _ [some 1000000000, some 98] (by simp) (by simp) ?_ ?_) (by omega) fun k hk Q3 hn3 hr3 he3 => ?_
      · simp -implicitDefEqProofs only [ints, rows, Nat.reduceBEq, wkR, Nat.reduceEqDiff, ↓reduceIte, wrR, nodes, evT]
      · refine ⟨⟨_, rfl, .refl _⟩, rfl, ⟨_, rfl, ?_⟩, rfl, trivial⟩
        rw [q14w]; exact .refl _
      have hcl1 : (cntW g s t 0 n c (o + 1)).length = (cntW g s t 0 n c o).length := by rw [q06q, q06q]
      have hcl0 : (cntW g s t 0 n c o).length = x.ch.length := by rw [q06q, hxd]
      rcases Nat.lt_or_ge k x.ch.length with h7 | h7
      · obtain ⟨y, hy⟩ : ∃ y, x.ch[k]? = some y := ⟨_, List.getElem?_eq_getElem h7⟩
        obtain ⟨y0, y1, y2⟩ := e3 y (List.mem_of_getElem? hy)
        have hym : y ∈ (g.nd.getD n nd0).ch := by rw [hxd]; exact List.mem_of_getElem? hy
        have hsu := q148 g s t 0 n c y.toNat o
        have k1 := q147 hg hs ht ((.inl rfl) : (0 : Int) = 0 ∨ (0 : Int) = 1) hn h2 hc hym (m := o) (by omega)
        have k2 := q147 hg hs ht ((.inl rfl) : (0 : Int) = 0 ∨ (0 : Int) = 1) hn h2 hc hym (m := o + 1) (by omega)
        have k3 := q146 hg hs ht ((.inl rfl) : (0 : Int) = 0 ∨ (0 : Int) = 1) hn h2 hc h8 hym
        have hval := q0xc (q0f7 hg hs ht hc h8 g.nd.length y.toNat (q144 g n) (by omega) y1 y2 (by omega))
        rw [show ((y.toNat : Nat) : Int) = y by omega] at hval
        have hcf : rchW g s t 0 n c o * val g s t g.nd.length y.toNat c o (q144 g n) = cntF g s t 0 n c y.toNat o := rfl
        have hg1 : (mixL (cntW g s t 0 n c (o + 1)) (cntW g s t 0 n c o) k)[k]? = some (cntN g s t 0 n c y.toNat o) := by
          rw [q14t hcl1 (by omega)]; exact hcvg k o y hy
        have hml : (mixL (cntW g s t 0 n c (o + 1)) (cntW g s t 0 n c o) k).length = x.ch.length := by rw [q14u hcl1 (by omega), hcl0]
        simp -implicitDefEqProofs only [go_sem, evR, ints, rows, rat, rats, nodes, q0qa, intsO, evT, hy, hg1, hml, decide_eq_true (show (k : Int) < (x.ch.length : Int) by omega), opR, Nat.reduceBEq]
        repeat (first | refine ⟨by omega, ?_⟩ | refine ⟨by rw [q0l0]; omega, ?_⟩)
        refine q002.ref hval [] [] rfl Try.call180 (by simp) ?_ (by simp) (fun e R' hR => ?_) (.inl rfl) ?_
        · simp -implicitDefEqProofs only [srR, Nat.reduceEqDiff, ↓reduceIte, ints, rows, intsO, q0qa]
        · simp -implicitDefEqProofs only [agR, Nat.reduceLeDiff, Nat.reduceSub, vaR, go_sem, ints, rows, rat, rats, q0p1, rtR, intsO, q0qa]
        simp -implicitDefEqProofs only [clR, Nat.reduceLeDiff, go_sem, evR, rat, hml, hcf, wrap64 (n := cntF g s t 0 n c y.toNat o) (by omega) (by omega), ← hsu, wrap64 (n := cntN g s t 0 n c y.toNat (o + 1)) (by omega) (by omega)]
        refine ⟨⟨by omega, by omega, by omega, hn3 _ (k + 1) (Weak.of _ _ [some 1000000000, some 98] (by simp) (by simp) ?_ ?_) (by omega) (by omega)⟩, q09v.refl _ _ _⟩
        · simp -implicitDefEqProofs only [ints, rows, Nat.reduceBEq, wkR, Nat.reduceEqDiff, ↓reduceIte, wrR, nodes, evT, q0lb h7 (show x.ch.length <= 1000000000000 by omega)]
        · refine ⟨⟨_, rfl, .refl _⟩, rfl, ⟨_, rfl, ?_⟩, rfl, trivial⟩
          rw [← q14v hcl1 (hcvg k (o + 1) y hy), intsO, List.map_set]; exact .refl _
      · have hall : mixL (cntW g s t 0 n c (o + 1)) (cntW g s t 0 n c o) k = cntW g s t 0 n c (o + 1) := by
          have := q14s hcl1
          rw [hcl0] at this
          rw [show k = x.ch.length by omega]; exact this
        rw [hall]
        simp -implicitDefEqProofs only [go_sem, evR, ints, rows, rat, rats, nodes, q0qa, intsO, evT, decide_eq_false (show ¬ (k : Int) < (x.ch.length : Int) by omega), opR, Nat.reduceBEq]
        refine he3 _ _ ?_
        simp -implicitDefEqProofs only [go_sem, evR, ints, rows, rat, rats]
        refine hn2 _ (o + 1) (Weak.of _ _ [some 1000000000, some 98] (by simp) (by simp) ?_ ?_) (by omega) (by omega)
        · simp -implicitDefEqProofs only [ints, rows, Nat.reduceBEq, wkR, Nat.reduceEqDiff, ↓reduceIte, wrR, nodes, evT, q0lb h8 (by omega)]
        · exact ⟨⟨_, rfl, .refl _⟩, rfl, ⟨_, rfl, .refl _⟩, rfl, trivial⟩
  have hol : o = g.w.length := by omega
  subst hol
  rw [hcvA]
  simp -implicitDefEqProofs only [go_sem, evR, ints, rows, rat, rats, nodes, q0qa, intsO, evT, decide_eq_false (show ¬ (g.w.length : Int) < (g.w.length : Int) by omega), opR, Nat.reduceBEq]
  refine he2 _ _ ?_
  have hqi : (q10l 0 s t)[i]? = some q := w1
  have hqs : s[i]? = some q := hqi
  have hqsl := (List.getElem?_eq_some_iff.1 hqs).1
  simp -implicitDefEqProofs only [go_sem, evR, ints, rows, rat, rats, evT, hqs, opR, Nat.reduceBEq]
  repeat (first | refine ⟨by omega, ?_⟩ | refine ⟨by rw [q0l0]; omega, ?_⟩)
  refine SemC.loopR (σ := Nat) (fun k => St.of [(0, .own 1000000000), (1, .t (evT g s t)), (2, .t (.i 0)), (3, .t (.i i)), (4, .t (.i n)), (5, .t (.i c)), (16, .own 98), (24, .t (ints q)), (25, .t (.i (q14m q (cnts g s t 0 n c) k))), (130, .t (ints q)), (131, .t (.i q.length)), (132, .t (.i k))] [(1000000000, .box [nodes g.nd, rows g.w, rows g.v, q0qa R, q0qa U, q0qa Z, q0qa V]), (98, intsO (cnts g s t 0 n c))]) (fun k => k <= q.length) (fun k => q.length - k) 0 (Weak.of _ _ [some 1000000000, some 98] (by simp) (by simp) ?_ ?_) (by omega) fun k hk Q4 hn4 hr4 he4 => ?_
  · simp -implicitDefEqProofs only [ints, rows, Nat.reduceBEq, wkR, Nat.reduceEqDiff, ↓reduceIte, wrR, nodes, evT, q14p]
  · exact ⟨⟨_, rfl, .refl _⟩, rfl, ⟨_, rfl, .refl _⟩, rfl, trivial⟩
  rcases Nat.lt_or_ge k q.length with h9 | h9
  · obtain ⟨y, hy⟩ : ∃ y, q[k]? = some y := ⟨_, List.getElem?_eq_getElem h9⟩
    obtain ⟨v, hv⟩ : ∃ v, (cnts g s t 0 n c)[k]? = some v := ⟨_, List.getElem?_eq_getElem (by omega)⟩
    have hyb := w3 y (List.mem_of_getElem? hy)
    have hvb := hcb v (List.mem_of_getElem? hv)
    obtain ⟨m1, m2⟩ := q0kl hyb.1 hvb.1 hvb.2
    have hms := q14o hy hv
    have hm1 := q14n w3 hcb k
    have hm2 := q14n w3 hcb (k + 1)
    simp -implicitDefEqProofs only [go_sem, evR, ints, rows, rat, rats, nodes, q0qa, intsO, evT, hy, hv, decide_eq_true (show (k : Int) < (q.length : Int) by omega), opR, Nat.reduceBEq]
    repeat (first | refine ⟨by omega, ?_⟩ | refine ⟨by rw [q0l0]; omega, ?_⟩)
    refine hn4 _ (k + 1) (Weak.of _ _ [some 1000000000, some 98] (by simp) (by simp) ?_ ?_) (by omega) (by omega)
    · simp -implicitDefEqProofs only [ints, rows, Nat.reduceBEq, wkR, Nat.reduceEqDiff, ↓reduceIte, wrR, nodes, evT, q0lb h9 (show q.length <= 1000000000000 by omega), wrap64 (n := y * v) (by omega) (by omega), ← hms, wrap64 (n := q14m q (cnts g s t 0 n c) (k + 1)) (by omega) (by omega)]
    · exact ⟨⟨_, rfl, .refl _⟩, rfl, ⟨_, rfl, .refl _⟩, rfl, trivial⟩
  have hkq : k = (cnts g s t 0 n c).length := by omega
  subst hkq
  simp -implicitDefEqProofs only [go_sem, evR, ints, rows, rat, rats, nodes, q0qa, intsO, evT, decide_eq_false (show ¬ ((cnts g s t 0 n c).length : Int) < (q.length : Int) by omega), opR, Nat.reduceBEq]
  refine he4 _ _ ?_
  simp -implicitDefEqProofs only [go_sem, evR, ints, rows, rat, rats, evT]
  have hway := q0f8 hg hs ht ((.inl rfl) : (0 : Int) = 0 ∨ (0 : Int) = 1) (n := n) (a := c) (b := c) hn hc hc
  rw [← hmw] at hway
  have hwb := q154 hg (q153 hs ht ((.inl rfl) : (0 : Int) = 0 ∨ (0 : Int) = 1)).1 hc hn h2
  have hMb := q14n w3 hcb (cnts g s t 0 n c).length
  have hMd : q14l q (cnts g s t 0 n c) = q14m q (cnts g s t 0 n c) (cnts g s t 0 n c).length := rfl
  refine q006.pure hway [] rfl Try.call226 ?_ (by first | trivial | simp [T.noSh, T.noShL, rat]) rfl ?_
  · simp -implicitDefEqProofs only [agR, Nat.reduceLeDiff, Nat.reduceSub, vaR, go_sem, ints, rows, rat, rats, q0p1, rtR, intsO, q0qa]
  simp -implicitDefEqProofs only [go_sem, evR, ints, rows, rat, rats]
  generalize wayP g (q10l 0 s t) 0 c n = w at hwb hSd ⊢
  rw [← hMd]
  rw [← hMd] at hMb
  generalize q14l q (cnts g s t 0 n c) = M at hMb hRd ⊢
  generalize cnts g s t 0 n c = C at hcb hcl hMb hRd hqsl ⊢
  generalize rowR g s t 0 R i = nr at f1 f2 hRd ⊢
  generalize rowS g s t 0 Z i = nz at f3 f4 hSd ⊢
  have hnl : nr.length = r.length := by omega
  have hnz : nz.length = z.length := by omega
  have hiR : i < R.length := (List.getElem?_eq_some_iff.1 hr).1
  have hiZ : i < Z.length := (List.getElem?_eq_some_iff.1 hz).1
  refine SemC.loopR (σ := Nat) (fun k => St.of [(0, .own 1000000000), (1, .t (evT g s t)), (2, .t (.i 0)), (3, .t (.i i)), (4, .t (.i n)), (5, .t (.i c)), (16, .own 98), (25, .t (.i M)), (28, .t (.i w)), (152, .t (ints q)), (153, .t (.i q.length)), (154, .t (.i k))] [(1000000000, .box [nodes g.nd, rows g.w, rows g.v, q0qa (R.set i (mixL nr r k)), q0qa U, q0qa (Z.set i (mixL nz z k)), q0qa V]), (98, intsO C)]) (fun k => k <= q.length) (fun k => q.length - k) 0 (Weak.of _ _ [some 1000000000, some 98] (by simp) (by simp) ?_ ?_) (by omega) fun k hk Q5 hn5 hr5 he5 => ?_
  · simp -implicitDefEqProofs only [ints, rows, Nat.reduceBEq, wkR, Nat.reduceEqDiff, ↓reduceIte, wrR, nodes, evT]
  · refine ⟨⟨_, rfl, ?_⟩, rfl, ⟨_, rfl, .refl _⟩, rfl, trivial⟩
    rw [q14w, q14w, q0r2 hr, q0r2 hz]; exact .refl _
  rcases Nat.lt_or_ge k q.length with h9 | h9
  · obtain ⟨y, hy⟩ : ∃ y, q[k]? = some y := ⟨_, List.getElem?_eq_getElem h9⟩
    obtain ⟨v, hv⟩ : ∃ v, C[k]? = some v := ⟨_, List.getElem?_eq_getElem (by omega)⟩
    obtain ⟨x0, hx0⟩ : ∃ x0, r[k]? = some x0 := ⟨_, List.getElem?_eq_getElem (by omega)⟩
    obtain ⟨x1, hx1⟩ : ∃ x1, z[k]? = some x1 := ⟨_, List.getElem?_eq_getElem (by omega)⟩
    have hyb := w3 y (List.mem_of_getElem? hy)
    have hvb := hcb v (List.mem_of_getElem? hv)
    have hb0 := hrb x0 (List.mem_of_getElem? hx0)
    have hb1 := hzb x1 (List.mem_of_getElem? hx1)
    have hwy : 0 <= y * w /\ y * w <= 60 * 12960000 := ⟨Int.mul_nonneg hyb.1 hwb.1, Int.mul_le_mul hyb.2 hwb.2 hwb.1 (by decide)⟩
    have hnr1 : nr[k]? = some (x0 + (60 * v - M)) := by rw [hRd]; exact q15t hx0 hv
    have hnz1 : nz[k]? = some (x1 + y * w) := by rw [hSd, Int.mul_comm y w]; exact q15v hx1 hy
    have hg1 : (mixL nr r k)[k]? = some x0 := by rw [q14t hnl (by omega)]; exact hx0
    have hg2 : (mixL nz z k)[k]? = some x1 := by rw [q14t hnz (by omega)]; exact hx1
    have hl1 : (mixL nr r k).length = r.length := q14u hnl (by omega)
    have hl2 : (mixL nz z k).length = z.length := q14u hnz (by omega)
    have hc1 : (List.map intsO (R.set i (mixL nr r k)))[i]? = some (intsO (mixL nr r k)) := by rw [List.getElem?_map, List.getElem?_set_self hiR]; rfl
    have hc2 : (List.map intsO (Z.set i (mixL nz z k)))[i]? = some (intsO (mixL nz z k)) := by rw [List.getElem?_map, List.getElem?_set_self hiZ]; rfl
    have hc3 : ((List.map intsO (R.set i (mixL nr r k))).set i T.any)[i]? = some T.any := List.getElem?_set_self (by rw [List.length_map, List.length_set]; exact hiR)
    have hc4 : ((List.map intsO (Z.set i (mixL nz z k))).set i T.any)[i]? = some T.any := List.getElem?_set_self (by rw [List.length_map, List.length_set]; exact hiZ)
    simp -implicitDefEqProofs only [go_sem, evR, ints, rows, rat, rats, nodes, q0qa, intsO, evT, hy, decide_eq_true (show (k : Int) < (q.length : Int) by omega), opR, Nat.reduceBEq]
    repeat (first | refine ⟨by omega, ?_⟩ | refine ⟨by rw [q0l0]; omega, ?_⟩)
    refine ⟨_, Weak.trans (Weak.open 1000000000 3 501 rfl rfl rfl (by decide) rfl) (Weak.open 501 i 502 rfl hc1 rfl (by decide) rfl), ?_⟩
    simp -implicitDefEqProofs only [go_sem, evR, ints, rows, rat, rats, q0qa, intsO, hg1, hc1, hc3, hl1, hv, List.length_set, opR, Nat.reduceBEq]
    repeat (first | refine ⟨by omega, ?_⟩ | refine ⟨by rw [q0l0]; omega, ?_⟩)
    refine ⟨_, Weak.trans (Weak.close1 501 i 502 rfl rfl (by decide) hc3) (Weak.trans (Weak.close1 1000000000 3 501 rfl rfl (by decide) rfl) (Weak.trans (Weak.open 1000000000 5 503 rfl rfl rfl (by decide) rfl) (Weak.open 503 i 504 rfl hc2 rfl (by decide) rfl))), ?_⟩
    simp -implicitDefEqProofs only [go_sem, evR, ints, rows, rat, rats, q0qa, intsO, hg2, hc2, hc4, hl2, hv, List.length_set, opR, Nat.reduceBEq]
    repeat (first | refine ⟨by omega, ?_⟩ | refine ⟨by rw [q0l0]; omega, ?_⟩)
    have wA : IntKind.i64.wrap (60 * v) = 60 * v := wrap64 (by omega) (by omega)
    have wB : IntKind.i64.wrap (60 * v - M) = 60 * v - M := wrap64 (by omega) (by omega)
    have wC : IntKind.i64.wrap (x0 + (60 * v - M)) = x0 + (60 * v - M) := wrap64 (by omega) (by omega)
    have wD : IntKind.i64.wrap (y * w) = y * w := wrap64 (by omega) (by omega)
    have wE : IntKind.i64.wrap (x1 + y * w) = x1 + y * w := wrap64 (by omega) (by omega)
    refine hn5 _ (k + 1) (Weak.trans (Weak.close1 503 i 504 rfl rfl (by decide) hc4) (Weak.trans (Weak.close1 1000000000 5 503 rfl rfl (by decide) rfl) (Weak.of _ _ [some 1000000000, some 98] (by simp) (by simp) ?_ ?_))) (by omega) (by omega)
    · simp -implicitDefEqProofs only [ints, rows, Nat.reduceBEq, wkR, Nat.reduceEqDiff, ↓reduceIte, wrR, nodes, evT, q0lb h9 (show q.length <= 1000000000000 by omega)]
    · refine ⟨⟨_, rfl, ?_⟩, rfl, ⟨_, rfl, .refl _⟩, rfl, trivial⟩
      rw [← q14v hnl hnr1, ← q14v hnz hnz1]
      simp only [q0qa, intsO, List.map_set, List.set_set, wA, wB, wC, wD, wE, nodes, rows]
      exact .refl _
  · have hkq : k = q.length := by omega
    have m1 : mixL nr r k = nr := by rw [show k = r.length by omega]; exact q14s hnl
    have m2 : mixL nz z k = nz := by rw [show k = z.length by omega]; exact q14s hnz
    rw [m1, m2]
    simp -implicitDefEqProofs only [go_sem, evR, ints, rows, rat, rats, nodes, q0qa, intsO, evT, decide_eq_false (show ¬ (k : Int) < (q.length : Int) by omega), opR, Nat.reduceBEq]
    refine he5 _ _ ?_
    simp -implicitDefEqProofs only [go_sem, evR, ints, rows, rat, rats, q0qa, opR, Nat.reduceBEq]
set_option maxHeartbeats 2000000 in
theorem q0f5 {g : Gm} (hg : q0fl g = true) {s t : List (List Int)} (hs : q0nw g s 0) (ht : q0nw g t 1) {R Z U V : List (List Int)} {B : Int} (hR : okM g 1 B R) (hZ : okM g 1 B Z) (hB : B <= 30000000000000000) {i : Nat} (hi : i < (sets g 1).length) :
    Fun Try.prog 210 [.box [nodes g.nd, rows g.w, rows g.v, q0qa U, q0qa R, q0qa V, q0qa Z]] [.own 1000000000, .t (evT g s t), .t (.i 1), .t (.i i), .t (.i (setN g 1 i)), .t (.i (setC g 1 i))] fun o q => o = [.box [nodes g.nd, rows g.w, rows g.v, q0qa U, q0qa (R.set i (rowR g s t 1 R i)), q0qa V, q0qa (Z.set i (rowS g s t 1 Z i))]] /\ q = .tup [] := by
  obtain ⟨p1, p2, p3, p4, p5⟩ := q0fn hg
  obtain ⟨t1, t2, t3, t4⟩ := q0g0 p1
  obtain ⟨a1, a2, a3, a4, a5, a6⟩ := q15l hi
  obtain ⟨r, hr, hr', hrl, hrb⟩ := q150 hR hi
  obtain ⟨z, hz, hz', hzl, hzb⟩ := q150 hZ hi
  obtain ⟨w1, w2, w3, w4⟩ := q14r hg ((.inr rfl) : (1 : Int) = 0 ∨ (1 : Int) = 1) (q153 hs ht (.inr rfl)).1 hi
  obtain ⟨f1, f2⟩ := q15f hg hs ht (.inr rfl) hR hi
  obtain ⟨f3, f4⟩ := q15g hg hs ht (.inr rfl) hZ hi
  have hmw : wayP g (q10l 1 s t) 1 (setC g 1 i) (setN g 1 i) = wayP g (q10l 1 s t) 1 (if (1 : Int) = 0 then setC g 1 i else setC g 1 i) (setN g 1 i) := by split <;> rfl
  have hRd : rowR g s t 1 R i = updR r (cnts g s t 1 (setN g 1 i) (setC g 1 i)) (q14l ((q10l 1 s t).getD i []) (cnts g s t 1 (setN g 1 i) (setC g 1 i))) := by rw [rowR, hr']
  have hSd : rowS g s t 1 Z i = updW z ((q10l 1 s t).getD i []) (wayP g (q10l 1 s t) 1 (setC g 1 i) (setN g 1 i)) := by rw [rowS, hz']
  generalize hqq : (q10l 1 s t).getD i [] = q at w1 w2 w3 w4 hRd hSd
  generalize setN g 1 i = n at a1 a2 a4 a5 hRd hSd hmw ⊢
  generalize setC g 1 i = c at a1 a3 hRd hSd hmw ⊢
  have hn := a2
  have hc := a3
  have h2 : (g.nd.getD n nd0).p ≠ 2 := by omega
  obtain ⟨e1, e2, e3⟩ := q145 hg hn h2
  have hpk := q0on hg hn h2
  have hpa := q0om hg hn h2
  obtain ⟨x, hx⟩ : ∃ x, g.nd[n]? = some x := ⟨_, List.getElem?_eq_getElem hn⟩
  have hxd : g.nd.getD n nd0 = x := by rw [List.getD_eq_getElem?_getD, hx]; rfl
  have hxl := (q0ks (t2 _ _ hx)).2.2.2.2.2
  have hch := q0kp (t2 n _ hx)
  have hcvl := q06q g s t 1 n c
  have hcvg : ∀ (k m : Nat) (y : Int), x.ch[k]? = some y -> (cntW g s t 1 n c m)[k]? = some (cntN g s t 1 n c y.toNat m) := fun k m y h => q06p (by rw [hxd]; exact h)
  have hcv0 := q06s g s t 1 n c
  have hcvA : cntW g s t 1 n c g.w.length = cnts g s t 1 n c := rfl
  rw [hxd] at e3 a5 hcv0 hpa hpk hcvl
  have hcb := q149 hg hs ht ((.inr rfl) : (1 : Int) = 0 ∨ (1 : Int) = 1) hn h2 hc
  have hcl := q14b g s t 1 n c
  rw [hxd] at hcl
  refine q0a6 (by simp) ?_
  simp -implicitDefEqProofs only [go_sem, evR, ints, rows, rat, rats, q038, nodes, q0qa, q0kz hx, opR, Nat.reduceBEq]
  repeat (first | refine ⟨by omega, ?_⟩ | refine ⟨by rw [q0l0]; omega, ?_⟩)
  refine SemC.loopR (σ := Nat) (fun k => St.of [(0, .own 1000000000), (1, .t (evT g s t)), (2, .t (.i 1)), (3, .t (.i i)), (4, .t (.i n)), (5, .t (.i c)), (12, .t (ints x.ch)), (13, .t (.i (pwrK g.nd x.ch k))), (41, .t (ints x.ch)), (42, .t (.i x.ch.length)), (43, .t (.i k))] [(1000000000, .box [nodes g.nd, rows g.w, rows g.v, q0qa U, q0qa R, q0qa V, q0qa Z])]) (fun k => k <= x.ch.length) (fun k => x.ch.length - k) 0 (Weak.of _ _ [some 1000000000] (by simp) (by simp) ?_ ?_) (by omega) fun k hk Q1 hn1 hr1 he1 => ?_
  · simp -implicitDefEqProofs only [ints, rows, Nat.reduceBEq, wkR, Nat.reduceEqDiff, ↓reduceIte, wrR, nodes, evT, show pwrK g.nd x.ch 0 = 0 from rfl]
  · exact ⟨⟨_, rfl, .refl _⟩, rfl, trivial⟩
  rcases Nat.lt_or_ge k x.ch.length with h9 | h9
  · obtain ⟨y, hy⟩ : ∃ y, x.ch[k]? = some y := ⟨_, List.getElem?_eq_getElem h9⟩
    obtain ⟨y0, y1, y2⟩ := e3 y (List.mem_of_getElem? hy)
    simp -implicitDefEqProofs only [go_sem, evR, ints, rows, rat, rats, nodes, q0qa, evT, hy, decide_eq_true (show (k : Int) < (x.ch.length : Int) by omega), opR, Nat.reduceBEq]
    repeat (first | refine ⟨by omega, ?_⟩ | refine ⟨by rw [q0l0]; omega, ?_⟩)
    have hd := q080 (q0ek t2 (by omega) g.nd.length y.toNat (by omega) y1 (by omega))
    rw [show ((y.toNat : Nat) : Int) = y by omega] at hd
    refine q006.pure hd [] rfl Try.call164 ?_ (by first | trivial | simp [T.noSh, T.noShL, rat]) rfl ?_
    · simp -implicitDefEqProofs only [agR, Nat.reduceLeDiff, Nat.reduceSub, vaR, go_sem, ints, rows, rat, rats, q0p1, rtR, intsO, q0qa]
    simp -implicitDefEqProofs only [go_sem, evR, ints, rows, rat, rats]
    refine hn1 _ (k + 1) (Weak.of _ _ [some 1000000000] (by simp) (by simp) ?_ ?_) (by omega) (by omega)
    · simp -implicitDefEqProofs only [ints, rows, Nat.reduceBEq, wkR, Nat.reduceEqDiff, ↓reduceIte, wrR, nodes, evT, q0lb h9 (show x.ch.length <= 1000000000000 by omega), q0oo hy]
    · exact ⟨⟨_, rfl, .refl _⟩, rfl, trivial⟩
  have hkl : k = x.ch.length := by omega
  subst hkl
  rw [hpa]
  simp -implicitDefEqProofs only [go_sem, evR, ints, rows, rat, rats, nodes, q0qa, evT, decide_eq_false (show ¬ (x.ch.length : Int) < (x.ch.length : Int) by omega), opR, Nat.reduceBEq]
  refine he1 _ _ ?_
  simp -implicitDefEqProofs only [go_sem, evR, ints, rows, rat, rats, q0jc, opR, Nat.reduceBEq]
  repeat (first | refine ⟨by omega, ?_⟩ | refine ⟨by rw [q0l0]; omega, ?_⟩)
  refine SemC.loopR (σ := Nat) (fun o => St.of [(0, .own 1000000000), (1, .t (evT g s t)), (2, .t (.i 1)), (3, .t (.i i)), (4, .t (.i n)), (5, .t (.i c)), (12, .t (ints x.ch)), (13, .t (.i (q144 g n))), (16, .own 98), (65, .t (.i g.w.length)), (66, .t (.i o))] [(1000000000, .box [nodes g.nd, rows g.w, rows g.v, q0qa U, q0qa R, q0qa V, q0qa Z]), (98, intsO (cntW g s t 1 n c o))]) (fun o => o <= g.w.length) (fun o => g.w.length - o) 0 (Weak.of _ _ [some 1000000000, some 59] (by simp) (by simp) ?_ ?_) (by omega) fun o ho Q2 hn2 hr2 he2 => ?_
  · simp -implicitDefEqProofs only [ints, rows, Nat.reduceBEq, wkR, Nat.reduceEqDiff, ↓reduceIte, wrR, nodes, evT]
  · refine ⟨⟨_, rfl, .refl _⟩, rfl, ⟨_, rfl, ?_⟩, rfl, trivial⟩
    rw [hcv0, intsO, List.map_replicate]; exact .refl _
  rcases Nat.lt_or_ge o g.w.length with h8 | h8
  · obtain ⟨rw0, zw, hr0, hzw, hz0, hz9⟩ := q0cn hg h8 hc
    have hrwl : rw0.length = g.w.length := ((q0js.1 p3).2 rw0 (List.mem_of_getElem? hr0)).1
    have hwz : wAt g 1 c o = zw := by
      unfold wAt
      simp only [List.getD_eq_getElem?_getD, hr0, hzw, Option.getD_some, show ((1 : Int) = 0) = False by simp, if_false]
    have hot := (q153 hs ht ((.inr rfl) : (1 : Int) = 0 ∨ (1 : Int) = 1)).2
    have hr1' := q158 (c := c) hg hs ht ((.inr rfl) : (1 : Int) = 0 ∨ (1 : Int) = 1) hn h8
    have hpw := q157 (p := (wayL g.nd n).length) (by omega)
    have hcall := q0f8 hg hs ht ((.inl rfl) : (0 : Int) = 0 ∨ (0 : Int) = 1) (n := n) (a := o) (b := c) hn (by omega) (by omega)
    rw [show (if (0 : Int) = 0 then o else c) = o from rfl] at hcall
    have hrw : (-1) * zw * wayP g (q10l 0 s t) 0 o n = rchW g s t 1 n c o := by rw [rchW, hwz]; rfl
    simp -implicitDefEqProofs only [go_sem, evR, ints, rows, rat, rats, nodes, q0qa, intsO, evT, hr0, hzw, decide_eq_true (show (o : Int) < (g.w.length : Int) by omega), show ((0 : Int) == 1) = false from rfl, show ((1 : Int) == 1) = true from rfl, show IntKind.i64.wrap (1 - 0) = 1 from rfl, show IntKind.i64.wrap (1 - 1) = 0 from rfl, opR, Nat.reduceBEq]
    repeat (first | refine ⟨by omega, ?_⟩ | refine ⟨by rw [q0l0]; omega, ?_⟩)
    refine q002.ref hcall [] [] rfl Try.call226 (by simp) ?_ (by simp) (fun e R' hR => ?_) (.inl rfl) ?_
    · simp -implicitDefEqProofs only [srR, Nat.reduceEqDiff, ↓reduceIte, ints, rows, intsO, q0qa]
    · simp -implicitDefEqProofs only [agR, Nat.reduceLeDiff, Nat.reduceSub, vaR, go_sem, ints, rows, rat, rats, q0p1, rtR, intsO, q0qa]
    simp -implicitDefEqProofs only [clR, Nat.reduceLeDiff, go_sem, evR, rat, wrap64 (n := (-1) * zw) (by omega) (by omega), hrw, wrap64 (n := rchW g s t 1 n c o) (by omega) (by omega)]
    refine ⟨⟨fun h5 => ?_, fun h5 => ?_⟩, q09v.refl _ _ _⟩
    · have h5 : rchW g s t 1 n c o = 0 := by simpa using h5
      refine hn2 _ (o + 1) (Weak.of _ _ [some 1000000000, some 98] (by simp) (by simp) ?_ ?_) (by omega) (by omega)
      · simp -implicitDefEqProofs only [ints, rows, Nat.reduceBEq, wkR, Nat.reduceEqDiff, ↓reduceIte, wrR, nodes, evT, q0lb h8 (by omega)]
      · refine ⟨⟨_, rfl, .refl _⟩, rfl, ⟨_, rfl, ?_⟩, rfl, trivial⟩
        rw [q06r h5]; exact .refl _
    · refine SemC.loopR (σ := Nat) (fun k => St.of [(0, .own 1000000000), (1, .t (evT g s t)), (2, .t (.i 1)), (3, .t (.i i)), (4, .t (.i n)), (5, .t (.i c)), (12, .t (ints x.ch)), (13, .t (.i (q144 g n))), (16, .own 98), (18, .t (.i o)), (19, .t (.i c)), (21, .t (.i (rchW g s t 1 n c o))), (65, .t (.i g.w.length)), (66, .t (.i o)), (98, .t (ints x.ch)), (99, .t (.i x.ch.length)), (100, .t (.i k))] [(1000000000, .box [nodes g.nd, rows g.w, rows g.v, q0qa U, q0qa R, q0qa V, q0qa Z]), (98, intsO (mixL (cntW g s t 1 n c (o + 1)) (cntW g s t 1 n c o) k))]) (fun k => k <= x.ch.length) (fun k => x.ch.length - k) 0 (Weak.of _ _ [some 1000000000, some 98] (by simp) (by simp) ?_ ?_) (by omega) fun k hk Q3 hn3 hr3 he3 => ?_
      · simp -implicitDefEqProofs only [ints, rows, Nat.reduceBEq, wkR, Nat.reduceEqDiff, ↓reduceIte, wrR, nodes, evT]
      · refine ⟨⟨_, rfl, .refl _⟩, rfl, ⟨_, rfl, ?_⟩, rfl, trivial⟩
        rw [q14w]; exact .refl _
      have hcl1 : (cntW g s t 1 n c (o + 1)).length = (cntW g s t 1 n c o).length := by rw [q06q, q06q]
      have hcl0 : (cntW g s t 1 n c o).length = x.ch.length := by rw [q06q, hxd]
      rcases Nat.lt_or_ge k x.ch.length with h7 | h7
      · obtain ⟨y, hy⟩ : ∃ y, x.ch[k]? = some y := ⟨_, List.getElem?_eq_getElem h7⟩
        obtain ⟨y0, y1, y2⟩ := e3 y (List.mem_of_getElem? hy)
        have hym : y ∈ (g.nd.getD n nd0).ch := by rw [hxd]; exact List.mem_of_getElem? hy
        have hsu := q148 g s t 1 n c y.toNat o
        have k1 := q147 hg hs ht ((.inr rfl) : (1 : Int) = 0 ∨ (1 : Int) = 1) hn h2 hc hym (m := o) (by omega)
        have k2 := q147 hg hs ht ((.inr rfl) : (1 : Int) = 0 ∨ (1 : Int) = 1) hn h2 hc hym (m := o + 1) (by omega)
        have k3 := q146 hg hs ht ((.inr rfl) : (1 : Int) = 0 ∨ (1 : Int) = 1) hn h2 hc h8 hym
        have hval := q0xc (q0f7 hg hs ht h8 hc g.nd.length y.toNat (q144 g n) (by omega) y1 y2 (by omega))
        rw [show ((y.toNat : Nat) : Int) = y by omega] at hval
        have hcf : rchW g s t 1 n c o * val g s t g.nd.length y.toNat o c (q144 g n) = cntF g s t 1 n c y.toNat o := rfl
        have hg1 : (mixL (cntW g s t 1 n c (o + 1)) (cntW g s t 1 n c o) k)[k]? = some (cntN g s t 1 n c y.toNat o) := by
          rw [q14t hcl1 (by omega)]; exact hcvg k o y hy
        have hml : (mixL (cntW g s t 1 n c (o + 1)) (cntW g s t 1 n c o) k).length = x.ch.length := by rw [q14u hcl1 (by omega), hcl0]
        simp -implicitDefEqProofs only [go_sem, evR, ints, rows, rat, rats, nodes, q0qa, intsO, evT, hy, hg1, hml, decide_eq_true (show (k : Int) < (x.ch.length : Int) by omega), opR, Nat.reduceBEq]
        repeat (first | refine ⟨by omega, ?_⟩ | refine ⟨by rw [q0l0]; omega, ?_⟩)
        refine q002.ref hval [] [] rfl Try.call180 (by simp) ?_ (by simp) (fun e R' hR => ?_) (.inl rfl) ?_
        · simp -implicitDefEqProofs only [srR, Nat.reduceEqDiff, ↓reduceIte, ints, rows, intsO, q0qa]
        · simp -implicitDefEqProofs only [agR, Nat.reduceLeDiff, Nat.reduceSub, vaR, go_sem, ints, rows, rat, rats, q0p1, rtR, intsO, q0qa]
        simp -implicitDefEqProofs only [clR, Nat.reduceLeDiff, go_sem, evR, rat, hml, hcf, wrap64 (n := cntF g s t 1 n c y.toNat o) (by omega) (by omega), ← hsu, wrap64 (n := cntN g s t 1 n c y.toNat (o + 1)) (by omega) (by omega)]
        refine ⟨⟨by omega, by omega, by omega, hn3 _ (k + 1) (Weak.of _ _ [some 1000000000, some 98] (by simp) (by simp) ?_ ?_) (by omega) (by omega)⟩, q09v.refl _ _ _⟩
        · simp -implicitDefEqProofs only [ints, rows, Nat.reduceBEq, wkR, Nat.reduceEqDiff, ↓reduceIte, wrR, nodes, evT, q0lb h7 (show x.ch.length <= 1000000000000 by omega)]
        · refine ⟨⟨_, rfl, .refl _⟩, rfl, ⟨_, rfl, ?_⟩, rfl, trivial⟩
          rw [← q14v hcl1 (hcvg k (o + 1) y hy), intsO, List.map_set]; exact .refl _
      · have hall : mixL (cntW g s t 1 n c (o + 1)) (cntW g s t 1 n c o) k = cntW g s t 1 n c (o + 1) := by
          have := q14s hcl1
          rw [hcl0] at this
          rw [show k = x.ch.length by omega]; exact this
        rw [hall]
        simp -implicitDefEqProofs only [go_sem, evR, ints, rows, rat, rats, nodes, q0qa, intsO, evT, decide_eq_false (show ¬ (k : Int) < (x.ch.length : Int) by omega), opR, Nat.reduceBEq]
        refine he3 _ _ ?_
        simp -implicitDefEqProofs only [go_sem, evR, ints, rows, rat, rats]
        refine hn2 _ (o + 1) (Weak.of _ _ [some 1000000000, some 98] (by simp) (by simp) ?_ ?_) (by omega) (by omega)
        · simp -implicitDefEqProofs only [ints, rows, Nat.reduceBEq, wkR, Nat.reduceEqDiff, ↓reduceIte, wrR, nodes, evT, q0lb h8 (by omega)]
        · exact ⟨⟨_, rfl, .refl _⟩, rfl, ⟨_, rfl, .refl _⟩, rfl, trivial⟩
  have hol : o = g.w.length := by omega
  subst hol
  rw [hcvA]
  simp -implicitDefEqProofs only [go_sem, evR, ints, rows, rat, rats, nodes, q0qa, intsO, evT, decide_eq_false (show ¬ (g.w.length : Int) < (g.w.length : Int) by omega), opR, Nat.reduceBEq]
  refine he2 _ _ ?_
  have hqi : (q10l 1 s t)[i]? = some q := w1
  have hqs : t[i]? = some q := hqi
  have hqsl := (List.getElem?_eq_some_iff.1 hqs).1
  simp -implicitDefEqProofs only [go_sem, evR, ints, rows, rat, rats, evT, hqs, opR, Nat.reduceBEq]
  repeat (first | refine ⟨by omega, ?_⟩ | refine ⟨by rw [q0l0]; omega, ?_⟩)
  refine SemC.loopR (σ := Nat) (fun k => St.of [(0, .own 1000000000), (1, .t (evT g s t)), (2, .t (.i 1)), (3, .t (.i i)), (4, .t (.i n)), (5, .t (.i c)), (16, .own 98), (24, .t (ints q)), (25, .t (.i (q14m q (cnts g s t 1 n c) k))), (130, .t (ints q)), (131, .t (.i q.length)), (132, .t (.i k))] [(1000000000, .box [nodes g.nd, rows g.w, rows g.v, q0qa U, q0qa R, q0qa V, q0qa Z]), (98, intsO (cnts g s t 1 n c))]) (fun k => k <= q.length) (fun k => q.length - k) 0 (Weak.of _ _ [some 1000000000, some 98] (by simp) (by simp) ?_ ?_) (by omega) fun k hk Q4 hn4 hr4 he4 => ?_
  · simp -implicitDefEqProofs only [ints, rows, Nat.reduceBEq, wkR, Nat.reduceEqDiff, ↓reduceIte, wrR, nodes, evT, q14p]
  · exact ⟨⟨_, rfl, .refl _⟩, rfl, ⟨_, rfl, .refl _⟩, rfl, trivial⟩
  rcases Nat.lt_or_ge k q.length with h9 | h9
  · obtain ⟨y, hy⟩ : ∃ y, q[k]? = some y := ⟨_, List.getElem?_eq_getElem h9⟩
    obtain ⟨v, hv⟩ : ∃ v, (cnts g s t 1 n c)[k]? = some v := ⟨_, List.getElem?_eq_getElem (by omega)⟩
    have hyb := w3 y (List.mem_of_getElem? hy)
    have hvb := hcb v (List.mem_of_getElem? hv)
    obtain ⟨m1, m2⟩ := q0kl hyb.1 hvb.1 hvb.2
    have hms := q14o hy hv
    have hm1 := q14n w3 hcb k
    have hm2 := q14n w3 hcb (k + 1)
    simp -implicitDefEqProofs only [go_sem, evR, ints, rows, rat, rats, nodes, q0qa, intsO, evT, hy, hv, decide_eq_true (show (k : Int) < (q.length : Int) by omega), opR, Nat.reduceBEq]
    repeat (first | refine ⟨by omega, ?_⟩ | refine ⟨by rw [q0l0]; omega, ?_⟩)
    refine hn4 _ (k + 1) (Weak.of _ _ [some 1000000000, some 98] (by simp) (by simp) ?_ ?_) (by omega) (by omega)
    · simp -implicitDefEqProofs only [ints, rows, Nat.reduceBEq, wkR, Nat.reduceEqDiff, ↓reduceIte, wrR, nodes, evT, q0lb h9 (show q.length <= 1000000000000 by omega), wrap64 (n := y * v) (by omega) (by omega), ← hms, wrap64 (n := q14m q (cnts g s t 1 n c) (k + 1)) (by omega) (by omega)]
    · exact ⟨⟨_, rfl, .refl _⟩, rfl, ⟨_, rfl, .refl _⟩, rfl, trivial⟩
  have hkq : k = (cnts g s t 1 n c).length := by omega
  subst hkq
  simp -implicitDefEqProofs only [go_sem, evR, ints, rows, rat, rats, nodes, q0qa, intsO, evT, decide_eq_false (show ¬ ((cnts g s t 1 n c).length : Int) < (q.length : Int) by omega), opR, Nat.reduceBEq]
  refine he4 _ _ ?_
  simp -implicitDefEqProofs only [go_sem, evR, ints, rows, rat, rats, evT]
  have hway := q0f8 hg hs ht ((.inr rfl) : (1 : Int) = 0 ∨ (1 : Int) = 1) (n := n) (a := c) (b := c) hn hc hc
  rw [← hmw] at hway
  have hwb := q154 hg (q153 hs ht ((.inr rfl) : (1 : Int) = 0 ∨ (1 : Int) = 1)).1 hc hn h2
  have hMb := q14n w3 hcb (cnts g s t 1 n c).length
  have hMd : q14l q (cnts g s t 1 n c) = q14m q (cnts g s t 1 n c) (cnts g s t 1 n c).length := rfl
  refine q006.pure hway [] rfl Try.call226 ?_ (by first | trivial | simp [T.noSh, T.noShL, rat]) rfl ?_
  · simp -implicitDefEqProofs only [agR, Nat.reduceLeDiff, Nat.reduceSub, vaR, go_sem, ints, rows, rat, rats, q0p1, rtR, intsO, q0qa]
  simp -implicitDefEqProofs only [go_sem, evR, ints, rows, rat, rats]
  generalize wayP g (q10l 1 s t) 1 c n = w at hwb hSd ⊢
  rw [← hMd]
  rw [← hMd] at hMb
  generalize q14l q (cnts g s t 1 n c) = M at hMb hRd ⊢
  generalize cnts g s t 1 n c = C at hcb hcl hMb hRd hqsl ⊢
  generalize rowR g s t 1 R i = nr at f1 f2 hRd ⊢
  generalize rowS g s t 1 Z i = nz at f3 f4 hSd ⊢
  have hnl : nr.length = r.length := by omega
  have hnz : nz.length = z.length := by omega
  have hiR : i < R.length := (List.getElem?_eq_some_iff.1 hr).1
  have hiZ : i < Z.length := (List.getElem?_eq_some_iff.1 hz).1
  refine SemC.loopR (σ := Nat) (fun k => St.of [(0, .own 1000000000), (1, .t (evT g s t)), (2, .t (.i 1)), (3, .t (.i i)), (4, .t (.i n)), (5, .t (.i c)), (16, .own 98), (25, .t (.i M)), (28, .t (.i w)), (152, .t (ints q)), (153, .t (.i q.length)), (154, .t (.i k))] [(1000000000, .box [nodes g.nd, rows g.w, rows g.v, q0qa U, q0qa (R.set i (mixL nr r k)), q0qa V, q0qa (Z.set i (mixL nz z k))]), (98, intsO C)]) (fun k => k <= q.length) (fun k => q.length - k) 0 (Weak.of _ _ [some 1000000000, some 98] (by simp) (by simp) ?_ ?_) (by omega) fun k hk Q5 hn5 hr5 he5 => ?_
  · simp -implicitDefEqProofs only [ints, rows, Nat.reduceBEq, wkR, Nat.reduceEqDiff, ↓reduceIte, wrR, nodes, evT]
  · refine ⟨⟨_, rfl, ?_⟩, rfl, ⟨_, rfl, .refl _⟩, rfl, trivial⟩
    rw [q14w, q14w, q0r2 hr, q0r2 hz]; exact .refl _
  rcases Nat.lt_or_ge k q.length with h9 | h9
  · obtain ⟨y, hy⟩ : ∃ y, q[k]? = some y := ⟨_, List.getElem?_eq_getElem h9⟩
    obtain ⟨v, hv⟩ : ∃ v, C[k]? = some v := ⟨_, List.getElem?_eq_getElem (by omega)⟩
    obtain ⟨x0, hx0⟩ : ∃ x0, r[k]? = some x0 := ⟨_, List.getElem?_eq_getElem (by omega)⟩
    obtain ⟨x1, hx1⟩ : ∃ x1, z[k]? = some x1 := ⟨_, List.getElem?_eq_getElem (by omega)⟩
    have hyb := w3 y (List.mem_of_getElem? hy)
    have hvb := hcb v (List.mem_of_getElem? hv)
    have hb0 := hrb x0 (List.mem_of_getElem? hx0)
    have hb1 := hzb x1 (List.mem_of_getElem? hx1)
    have hwy : 0 <= y * w /\ y * w <= 60 * 12960000 := ⟨Int.mul_nonneg hyb.1 hwb.1, Int.mul_le_mul hyb.2 hwb.2 hwb.1 (by decide)⟩
    have hnr1 : nr[k]? = some (x0 + (60 * v - M)) := by rw [hRd]; exact q15t hx0 hv
    have hnz1 : nz[k]? = some (x1 + y * w) := by rw [hSd, Int.mul_comm y w]; exact q15v hx1 hy
    have hg1 : (mixL nr r k)[k]? = some x0 := by rw [q14t hnl (by omega)]; exact hx0
    have hg2 : (mixL nz z k)[k]? = some x1 := by rw [q14t hnz (by omega)]; exact hx1
    have hl1 : (mixL nr r k).length = r.length := q14u hnl (by omega)
    have hl2 : (mixL nz z k).length = z.length := q14u hnz (by omega)
    have hc1 : (List.map intsO (R.set i (mixL nr r k)))[i]? = some (intsO (mixL nr r k)) := by rw [List.getElem?_map, List.getElem?_set_self hiR]; rfl
    have hc2 : (List.map intsO (Z.set i (mixL nz z k)))[i]? = some (intsO (mixL nz z k)) := by rw [List.getElem?_map, List.getElem?_set_self hiZ]; rfl
    have hc3 : ((List.map intsO (R.set i (mixL nr r k))).set i T.any)[i]? = some T.any := List.getElem?_set_self (by rw [List.length_map, List.length_set]; exact hiR)
    have hc4 : ((List.map intsO (Z.set i (mixL nz z k))).set i T.any)[i]? = some T.any := List.getElem?_set_self (by rw [List.length_map, List.length_set]; exact hiZ)
    simp -implicitDefEqProofs only [go_sem, evR, ints, rows, rat, rats, nodes, q0qa, intsO, evT, hy, decide_eq_true (show (k : Int) < (q.length : Int) by omega), opR, Nat.reduceBEq]
    repeat (first | refine ⟨by omega, ?_⟩ | refine ⟨by rw [q0l0]; omega, ?_⟩)
    refine ⟨_, Weak.trans (Weak.open 1000000000 4 501 rfl rfl rfl (by decide) rfl) (Weak.open 501 i 502 rfl hc1 rfl (by decide) rfl), ?_⟩
    simp -implicitDefEqProofs only [go_sem, evR, ints, rows, rat, rats, q0qa, intsO, hg1, hc1, hc3, hl1, hv, List.length_set, opR, Nat.reduceBEq]
    repeat (first | refine ⟨by omega, ?_⟩ | refine ⟨by rw [q0l0]; omega, ?_⟩)
    refine ⟨_, Weak.trans (Weak.close1 501 i 502 rfl rfl (by decide) hc3) (Weak.trans (Weak.close1 1000000000 4 501 rfl rfl (by decide) rfl) (Weak.trans (Weak.open 1000000000 6 503 rfl rfl rfl (by decide) rfl) (Weak.open 503 i 504 rfl hc2 rfl (by decide) rfl))), ?_⟩
    simp -implicitDefEqProofs only [go_sem, evR, ints, rows, rat, rats, q0qa, intsO, hg2, hc2, hc4, hl2, hv, List.length_set, opR, Nat.reduceBEq]
    repeat (first | refine ⟨by omega, ?_⟩ | refine ⟨by rw [q0l0]; omega, ?_⟩)
    have wA : IntKind.i64.wrap (60 * v) = 60 * v := wrap64 (by omega) (by omega)
    have wB : IntKind.i64.wrap (60 * v - M) = 60 * v - M := wrap64 (by omega) (by omega)
    have wC : IntKind.i64.wrap (x0 + (60 * v - M)) = x0 + (60 * v - M) := wrap64 (by omega) (by omega)
    have wD : IntKind.i64.wrap (y * w) = y * w := wrap64 (by omega) (by omega)
    have wE : IntKind.i64.wrap (x1 + y * w) = x1 + y * w := wrap64 (by omega) (by omega)
    refine hn5 _ (k + 1) (Weak.trans (Weak.close1 503 i 504 rfl rfl (by decide) hc4) (Weak.trans (Weak.close1 1000000000 6 503 rfl rfl (by decide) rfl) (Weak.of _ _ [some 1000000000, some 98] (by simp) (by simp) ?_ ?_))) (by omega) (by omega)
    · simp -implicitDefEqProofs only [ints, rows, Nat.reduceBEq, wkR, Nat.reduceEqDiff, ↓reduceIte, wrR, nodes, evT, q0lb h9 (show q.length <= 1000000000000 by omega)]
    · refine ⟨⟨_, rfl, ?_⟩, rfl, ⟨_, rfl, .refl _⟩, rfl, trivial⟩
      rw [← q14v hnl hnr1, ← q14v hnz hnz1]
      simp only [q0qa, intsO, List.map_set, List.set_set, wA, wB, wC, wD, wE, nodes, rows]
      exact .refl _
  · have hkq : k = q.length := by omega
    have m1 : mixL nr r k = nr := by rw [show k = r.length by omega]; exact q14s hnl
    have m2 : mixL nz z k = nz := by rw [show k = z.length by omega]; exact q14s hnz
    rw [m1, m2]
    simp -implicitDefEqProofs only [go_sem, evR, ints, rows, rat, rats, nodes, q0qa, intsO, evT, decide_eq_false (show ¬ (k : Int) < (q.length : Int) by omega), opR, Nat.reduceBEq]
    refine he5 _ _ ?_
    simp -implicitDefEqProofs only [go_sem, evR, ints, rows, rat, rats, q0qa, opR, Nat.reduceBEq]
end
theorem q0kc {α : Type} {new old : List α} (h : new.length = old.length) {i : Nat} (hi : i <= old.length) (j : Nat) : (mixL new old i)[j]? = if j < i then new[j]? else old[j]? := by
  unfold mixL
  have hl : (new.take i).length = i := by rw [List.length_take]; omega
  split
  · rename_i hj
    rw [List.getElem?_append_left (by omega), List.getElem?_take, if_pos hj]
  · rename_i hj
    rw [List.getElem?_append_right (by omega), hl, List.getElem?_drop]
    congr 1; omega
theorem q0m7 {g : Gm} {pl B B' : Int} {m : List (List Int)} (h : okM g pl B m) (hB : B <= B') : okM g pl B' m := ⟨h.1, fun i r hr => ⟨(h.2 i r hr).1, fun x hx => by have := (h.2 i r hr).2 x hx; omega⟩⟩
theorem q0m8 {g : Gm} {pl B : Int} {new old : List (List Int)} (h1 : okM g pl B new) (h2 : okM g pl B old) {i : Nat} (hi : i <= (sets g pl).length) : okM g pl B (mixL new old i) := by
  have hl : new.length = old.length := by rw [h1.1, h2.1]
  refine ⟨by rw [q14u hl (by rw [h2.1]; exact hi), h2.1], fun j r hr => ?_⟩
  rw [q0kc hl (by rw [h2.1]; exact hi)] at hr
  split at hr
  · exact h1.2 j r hr
  · exact h2.2 j r hr
theorem q0kd {new old : List (List Int)} (h : new.length = old.length) {i : Nat} (hi : i <= old.length) : (mixL new old i).getD i [] = old.getD i [] := by
  rw [List.getD_eq_getElem?_getD, List.getD_eq_getElem?_getD, q0kc h hi, if_neg (by omega)]
theorem q0q3 (g : Gm) (s t : List (List Int)) (pl : Int) {new old : List (List Int)} (h : new.length = old.length) {i : Nat} (hi : i <= old.length) : rowR g s t pl (mixL new old i) i = rowR g s t pl old i := by rw [rowR, rowR, q0kd h hi]
theorem q0q4 (g : Gm) (s t : List (List Int)) (pl : Int) {new old : List (List Int)} (h : new.length = old.length) {i : Nat} (hi : i <= old.length) : rowS g s t pl (mixL new old i) i = rowS g s t pl old i := by rw [rowS, rowS, q0kd h hi]
theorem q0le (g : Gm) (s t : List (List Int)) (pl : Int) (R : List (List Int)) : (q14y g s t pl R).length = (sets g pl).length := by simp [q14y]
theorem q0lj (g : Gm) (s t : List (List Int)) (pl : Int) (R : List (List Int)) : (q14z g s t pl R).length = (sets g pl).length := by simp [q14z]
theorem q0ld {g : Gm} {s t : List (List Int)} {pl : Int} {R : List (List Int)} {i : Nat} (h : i < (sets g pl).length) : (q14y g s t pl R)[i]? = some (rowR g s t pl R i) := by simp [q14y, h]
theorem q0li {g : Gm} {s t : List (List Int)} {pl : Int} {R : List (List Int)} {i : Nat} (h : i < (sets g pl).length) : (q14z g s t pl R)[i]? = some (rowS g s t pl R i) := by simp [q14z, h]
section
attribute [-go_sem] q0i5 q0id fldC lenC idxC q0ip q0lp
theorem q0ej (g : Gm) (x : RS) {B : Int} (h0 : runL B x.r0) (h1 : runL B x.r1) (hB : B < 9223372036854775808) : Fun Try.prog 112 [] [.t (.pin [.sh 5 (chunk q0lu g.nd), .sh 1 (g.w.map ints), .sh 1 (g.v.map ints), .sh 1 (x.r0.map ints), .sh 1 (x.r1.map ints), .sh 1 (x.s0.map ints), .sh 1 (x.s1.map ints)] 0)] fun o r => o = [] /\ r = .tup [.agg [.i 0, .arr 1 ((stM x.r0).map intsO)], .agg [.i 1, .arr 1 ((stM x.r1).map intsO)]] := by
  refine q0a4 (by simp) ?_
  simp -implicitDefEqProofs only [go_sem, evR, ints, rows, rat, rats, q036, opR, Nat.reduceBEq]
  repeat (first | refine ⟨by omega, ?_⟩ | refine ⟨by rw [q0l0]; omega, ?_⟩)
  refine q000.res (q0f0 0 x.r0 h0 hB) [] rfl Try.call174 (fun e R' hR => ?_) (.inl rfl) ?_
  · simp -implicitDefEqProofs only [agR, Nat.reduceLeDiff, Nat.reduceSub, vaR, go_sem, ints, rows, rat, rats, q0p1, rtR, intsO, q0qa]
  simp -implicitDefEqProofs only [clR, Nat.reduceLeDiff, go_sem, evR, rat, opR, Nat.reduceBEq]
  repeat (first | refine ⟨by omega, ?_⟩ | refine ⟨by rw [q0l0]; omega, ?_⟩)
  refine q000.res (q0f0 1 x.r1 h1 hB) [] rfl Try.call174 (fun e R' hR => ?_) (.inl rfl) ?_
  · simp -implicitDefEqProofs only [agR, Nat.reduceLeDiff, Nat.reduceSub, vaR, go_sem, ints, rows, rat, rats, q0p1, rtR, intsO, q0qa]
  simp -implicitDefEqProofs only [clR, Nat.reduceLeDiff, go_sem, evR, rat, opR, Nat.reduceBEq]
theorem q0eh (g : Gm) (x : RS) {B : Int} (h0 : runL B x.s0) (h1 : runL B x.s1) (hB : B < 9223372036854775808) : Fun Try.prog 113 [] [.t (.pin [.sh 5 (chunk q0lu g.nd), .sh 1 (g.w.map ints), .sh 1 (g.v.map ints), .sh 1 (x.r0.map ints), .sh 1 (x.r1.map ints), .sh 1 (x.s0.map ints), .sh 1 (x.s1.map ints)] 0)] fun o r => o = [] /\ r = .tup [.agg [.i 0, .arr 1 ((stM x.s0).map intsO)], .agg [.i 1, .arr 1 ((stM x.s1).map intsO)]] := by
  refine q0a3 (by simp) ?_
  simp -implicitDefEqProofs only [go_sem, evR, ints, rows, rat, rats, q035, opR, Nat.reduceBEq]
  repeat (first | refine ⟨by omega, ?_⟩ | refine ⟨by rw [q0l0]; omega, ?_⟩)
  refine q000.res (q0f0 0 x.s0 h0 hB) [] rfl Try.call174 (fun e R' hR => ?_) (.inl rfl) ?_
  · simp -implicitDefEqProofs only [agR, Nat.reduceLeDiff, Nat.reduceSub, vaR, go_sem, ints, rows, rat, rats, q0p1, rtR, intsO, q0qa]
  simp -implicitDefEqProofs only [clR, Nat.reduceLeDiff, go_sem, evR, rat, opR, Nat.reduceBEq]
  repeat (first | refine ⟨by omega, ?_⟩ | refine ⟨by rw [q0l0]; omega, ?_⟩)
  refine q000.res (q0f0 1 x.s1 h1 hB) [] rfl Try.call174 (fun e R' hR => ?_) (.inl rfl) ?_
  · simp -implicitDefEqProofs only [agR, Nat.reduceLeDiff, Nat.reduceSub, vaR, go_sem, ints, rows, rat, rats, q0p1, rtR, intsO, q0qa]
  simp -implicitDefEqProofs only [clR, Nat.reduceLeDiff, go_sem, evR, rat, opR, Nat.reduceBEq]
def itS (g : Gm) (s t : List (List Int)) (x : RS) : Nat -> T
  | 0 => .box [nodes g.nd, rows g.w, rows g.v, q0qa x.r0, q0qa x.r1, q0qa x.s0, q0qa x.s1]
  | 1 => .box [nodes g.nd, rows g.w, rows g.v, q0qa (q14y g s t 0 x.r0), q0qa x.r1, q0qa (q14z g s t 0 x.s0), q0qa x.s1]
  | _ => .box [nodes g.nd, rows g.w, rows g.v, q0qa (q14y g s t 0 x.r0), q0qa (q14y g s t 1 x.r1), q0qa (q14z g s t 0 x.s0), q0qa (q14z g s t 1 x.s1)]
theorem q07s (m m' : List (List Int)) : (T.tup [.agg [.i 0, .arr 1 (m.map intsO)], .agg [.i 1, .arr 1 (m'.map intsO)]]).noSh := ⟨⟨trivial, q0qb _, trivial⟩, ⟨trivial, q0qb _, trivial⟩, trivial⟩
set_option maxHeartbeats 2000000 in
theorem q0ep (g : Gm) (hg : q0fl g = true) (x : RS) {n : Nat} (hn : n <= 900) (h : okRS g n x) : Fun Try.prog 171 [rsB g x] [.own 1000000000] fun o r => o = [rsB g (q15q g x)] /\ r = .tup [] := by
  obtain ⟨p1, p2, p3, p4, p5⟩ := q0fn hg
  obtain ⟨t1, t2, t3, t4⟩ := q0g0 p1
  obtain ⟨k0, k1, _, _⟩ := q152 hg (by omega) h
  have k0 := q0nx k0
  have k1 := q0nx k1
  have w1 : IntKind.i64.wrap 1 = 1 := rfl
  have w2' : IntKind.i64.wrap (1 + 1) = 2 := rfl
  refine q0a5 (by simp) ?_
  simp -implicitDefEqProofs only [go_sem, evR, ints, rows, rat, rats, q037, rsB, nodes, q0qa, opR, Nat.reduceBEq]
  have hq := q0ej g x (q0m9 hg (.inl rfl) h.1) (q0m9 hg (.inr rfl) h.2.1) (by omega)
  refine q006.res hq [1000000000] rfl Try.call112 ?_ (.inr (q07s _ _)) ?_
  · simp -implicitDefEqProofs only [agR, Nat.reduceLeDiff, Nat.reduceSub, vaR, go_sem, ints, rows, rat, rats, q0p1, rtR, intsO, q0qa, T.toShL.eq_1, T.toShL.eq_2, q0vg]
  simp -implicitDefEqProofs only [clR, Nat.reduceLeDiff, go_sem, evR, rat, opR, Nat.reduceBEq]
  refine ⟨_, Weak.trans (Weak.share 2 rfl) (Weak.trans (Weak.share 3 rfl) (Weak.of [(0, .own 1000000000), (2, .t (.pin [.i 0, rows (stM x.r0)] 0)), (3, .t (.pin [.i 1, rows (stM x.r1)] 0))] [(1000000000, .box [nodes g.nd, rows g.w, rows g.v, q0qa x.r0, q0qa x.r1, q0qa x.s0, q0qa x.s1])] [some 1000000000] (by simp) (by simp) ?_ ?_)), ?_⟩
  · simp -implicitDefEqProofs only [ints, rows, Nat.reduceBEq, wkR, Nat.reduceEqDiff, ↓reduceIte, wrR, q0rg, T.toSh, T.toShL, q0vg, nodes, q0qa]
  · exact ⟨⟨_, rfl, .refl _⟩, rfl, trivial⟩
  have hE := q0l4 g (0, stM x.r0) (1, stM x.r1) hg
  have hstep : q15q g x = ⟨q14y g (stM x.r0) (stM x.r1) 0 x.r0, q14y g (stM x.r0) (stM x.r1) 1 x.r1, q14z g (stM x.r0) (stM x.r1) 0 x.s0, q14z g (stM x.r0) (stM x.r1) 1 x.s1⟩ := rfl
  rw [hstep]
  simp only [evO, nodes, rows, intsO] at hE
  generalize stM x.r0 = s at k0 hE ⊢
  generalize stM x.r1 = t at k1 hE ⊢
  simp -implicitDefEqProofs only [go_sem, evR, ints, rows, rat, rats, nodes, q0qa, opR, Nat.reduceBEq]
  refine q000.res hE [] rfl Try.call179 (fun e R' hR => ?_) (.inl rfl) ?_
  · simp -implicitDefEqProofs only [agR, Nat.reduceLeDiff, Nat.reduceSub, vaR, go_sem, ints, rows, rat, rats, q0p1, rtR, intsO, q0qa]
  simp -implicitDefEqProofs only [clR, Nat.reduceLeDiff, go_sem, evR, rat, opR, Nat.reduceBEq]
  refine ⟨_, Weak.share 19 rfl, ?_⟩
  refine SemC.loopR (σ := Nat) (fun q => St.of [(0, .own 1000000000), (4, .t (evT g s t)), (20, .t (.i q))] [(1000000000, itS g s t x q)]) (fun q => q <= 2) (fun q => 2 - q) 0 (Weak.of _ _ [some 1000000000] (by simp) (by simp) ?_ ?_) (by omega) fun q hq R hn hr he => ?_
  · simp -implicitDefEqProofs only [ints, rows, Nat.reduceBEq, wkR, Nat.reduceEqDiff, ↓reduceIte, wrR, q0rg, T.toSh, T.toShL, q0vg, q0vf, nodes, evT]
  · exact ⟨⟨_, rfl, .refl _⟩, rfl, trivial⟩
  · match q, hq with
    | 0, _ =>
      have hsl := q15m hg 0
      have nR := q0le g s t 0 x.r0
      have nZ := q0lj g s t 0 x.s0
      have lR : x.r0.length = (sets g 0).length := h.1.1
      have lZ : x.s0.length = (sets g 0).length := h.2.2.1.1
      have oR : okM g 0 (n * 30000000000000 + 30000000000000) (q14y g s t 0 x.r0) := q151 fun i hi => q15f hg k0 k1 (.inl rfl : (0 : Int) = 0 ∨ (0 : Int) = 1) h.1 hi
      have oZ : okM g 0 (n * 30000000000000 + 30000000000000) (q14z g s t 0 x.s0) := q151 fun i hi => q15g hg k0 k1 (.inl rfl : (0 : Int) = 0 ∨ (0 : Int) = 1) h.2.2.1 hi
      simp -implicitDefEqProofs only [go_sem, evR, ints, rows, rat, rats, itS, nodes, q0qa, decide_eq_true (show (0 : Int) < 2 by omega), Int.natCast_zero, Int.cast_ofNat_Int, opR, Nat.reduceBEq]
      have hp := q0fd g 0 t1.2 p2.2
      simp only [q0qa] at hp
      refine q006.res hp [] rfl Try.call152 ?_ (.inl rfl) ?_
      · simp -implicitDefEqProofs only [agR, Nat.reduceLeDiff, Nat.reduceSub, vaR, go_sem, ints, rows, rat, rats, q0p1, rtR, intsO, q0qa]
      simp -implicitDefEqProofs only [clR, Nat.reduceLeDiff, go_sem, evR, rat]
      refine SemC.loopR (σ := Nat) (fun i => St.of [(0, .own 1000000000), (4, .t (evT g s t)), (5, .t (.i 0)), (20, .t (.i 0)), (28, .t (rows (sets g 0))), (29, .t (.i (sets g 0).length)), (30, .t (.i i))] [(1000000000, .box [nodes g.nd, rows g.w, rows g.v, q0qa (mixL (q14y g s t 0 x.r0) x.r0 i), q0qa x.r1, q0qa (mixL (q14z g s t 0 x.s0) x.s0 i), q0qa x.s1])]) (fun i => i <= (sets g 0).length) (fun i => (sets g 0).length - i) 0 (Weak.trans (Weak.share 28 rfl) (Weak.of _ _ [some 1000000000] (by simp) (by simp) ?_ ?_)) (by simp) fun i hi R2 hn2 hr2 he2 => ?_
      · simp -implicitDefEqProofs only [ints, rows, Nat.reduceBEq, wkR, Nat.reduceEqDiff, ↓reduceIte, wrR, q0rg, T.toSh, q0vg, nodes, evT]
      · refine ⟨⟨_, rfl, ?_⟩, rfl, trivial⟩
        rw [q14w, q14w]; exact .refl _
      rcases Nat.lt_or_ge i (sets g 0).length with h9 | h9
      · obtain ⟨a1, a2, a3, a4, a5, a6⟩ := q15l h9
        have hu := q0f4 (U := x.r1) (V := x.s1) hg k0 k1 (q0m8 oR (q0m7 h.1 (by omega)) (i := i) (by omega)) (q0m8 oZ (q0m7 h.2.2.1 (by omega)) (i := i) (by omega)) (by omega) h9
        rw [q0q3 g s t 0 (by omega) (by omega), q0q4 g s t 0 (by omega) (by omega), q14v (by omega) (q0ld h9), q14v (by omega) (q0li h9)] at hu
        simp only [nodes, rows, q0qa] at hu
        simp -implicitDefEqProofs only [go_sem, evR, ints, rows, rat, rats, nodes, q0qa, evT, a1, decide_eq_true (show (i : Int) < ((sets g 0).length : Int) by omega), List.getElem?_cons_zero, List.getElem?_cons_succ, opR, Nat.reduceBEq]
        repeat (first | refine ⟨by omega, ?_⟩ | refine ⟨by rw [q0l0]; omega, ?_⟩)
        simp only [evT] at hu
        refine q002.ref hu [1000000000] [] rfl Try.call210 (by simp) ?_ (by simp) (fun e R' hR => ?_) (.inl rfl) ?_
        · simp -implicitDefEqProofs only [srR, Nat.reduceEqDiff, ↓reduceIte, ints, rows, intsO, q0qa]
        · simp -implicitDefEqProofs only [agR, Nat.reduceLeDiff, Nat.reduceSub, vaR, go_sem, ints, rows, rat, rats, q0p1, rtR, intsO, q0qa]
        simp -implicitDefEqProofs only [clR, Nat.reduceLeDiff, go_sem, evR, rat]
        refine hn2 _ (i + 1) (Weak.of _ _ [some 1000000000] (by simp) (by simp) ?_ ?_) (by omega) (by omega)
        · simp -implicitDefEqProofs only [ints, rows, Nat.reduceBEq, wkR, Nat.reduceEqDiff, ↓reduceIte, wrR, nodes, evT, q0lb h9 (by omega)]
        · exact ⟨⟨_, rfl, .refl _⟩, rfl, trivial⟩
      · have hil : i = (sets g 0).length := by omega
        have m1 : mixL (q14y g s t 0 x.r0) x.r0 i = q14y g s t 0 x.r0 := by rw [hil, ← lR]; exact q14s (by omega)
        have m2 : mixL (q14z g s t 0 x.s0) x.s0 i = q14z g s t 0 x.s0 := by rw [hil, ← lZ]; exact q14s (by omega)
        rw [m1, m2]
        simp -implicitDefEqProofs only [go_sem, evR, ints, rows, rat, rats, nodes, q0qa, evT, decide_eq_false (show ¬ (i : Int) < ((sets g 0).length : Int) by omega)]
        refine he2 _ _ ?_
        simp -implicitDefEqProofs only [go_sem, evR, ints, rows, rat, rats]
        refine hn _ 1 (Weak.of _ _ [some 1000000000] (by simp) (by simp) ?_ ?_) (by omega) (by omega)
        · simp -implicitDefEqProofs only [ints, rows, Nat.reduceBEq, wkR, Nat.reduceEqDiff, ↓reduceIte, wrR, nodes, evT, Int.zero_add, w1]
        · exact ⟨⟨_, rfl, .refl _⟩, rfl, trivial⟩
    | 1, _ =>
      have hsl := q15m hg 1
      have nR := q0le g s t 1 x.r1
      have nZ := q0lj g s t 1 x.s1
      have lR : x.r1.length = (sets g 1).length := h.2.1.1
      have lZ : x.s1.length = (sets g 1).length := h.2.2.2.1
      have oR : okM g 1 (n * 30000000000000 + 30000000000000) (q14y g s t 1 x.r1) := q151 fun i hi => q15f hg k0 k1 (.inr rfl : (1 : Int) = 0 ∨ (1 : Int) = 1) h.2.1 hi
      have oZ : okM g 1 (n * 30000000000000 + 30000000000000) (q14z g s t 1 x.s1) := q151 fun i hi => q15g hg k0 k1 (.inr rfl : (1 : Int) = 0 ∨ (1 : Int) = 1) h.2.2.2 hi
      simp -implicitDefEqProofs only [go_sem, evR, ints, rows, rat, rats, itS, nodes, q0qa, decide_eq_true (show (1 : Int) < 2 by omega), Int.natCast_zero, Int.cast_ofNat_Int, opR, Nat.reduceBEq]
      have hp := q0fd g 1 t1.2 p2.2
      simp only [q0qa] at hp
      refine q006.res hp [] rfl Try.call152 ?_ (.inl rfl) ?_
      · simp -implicitDefEqProofs only [agR, Nat.reduceLeDiff, Nat.reduceSub, vaR, go_sem, ints, rows, rat, rats, q0p1, rtR, intsO, q0qa]
      simp -implicitDefEqProofs only [clR, Nat.reduceLeDiff, go_sem, evR, rat]
      refine SemC.loopR (σ := Nat) (fun i => St.of [(0, .own 1000000000), (4, .t (evT g s t)), (5, .t (.i 1)), (20, .t (.i 1)), (28, .t (rows (sets g 1))), (29, .t (.i (sets g 1).length)), (30, .t (.i i))] [(1000000000, .box [nodes g.nd, rows g.w, rows g.v, q0qa (q14y g s t 0 x.r0), q0qa (mixL (q14y g s t 1 x.r1) x.r1 i), q0qa (q14z g s t 0 x.s0), q0qa (mixL (q14z g s t 1 x.s1) x.s1 i)])]) (fun i => i <= (sets g 1).length) (fun i => (sets g 1).length - i) 0 (Weak.trans (Weak.share 28 rfl) (Weak.of _ _ [some 1000000000] (by simp) (by simp) ?_ ?_)) (by simp) fun i hi R2 hn2 hr2 he2 => ?_
      · simp -implicitDefEqProofs only [ints, rows, Nat.reduceBEq, wkR, Nat.reduceEqDiff, ↓reduceIte, wrR, q0rg, T.toSh, q0vg, nodes, evT]
      · refine ⟨⟨_, rfl, ?_⟩, rfl, trivial⟩
        rw [q14w, q14w]; exact .refl _
      rcases Nat.lt_or_ge i (sets g 1).length with h9 | h9
      · obtain ⟨a1, a2, a3, a4, a5, a6⟩ := q15l h9
        have hu := q0f5 (U := (q14y g s t 0 x.r0)) (V := (q14z g s t 0 x.s0)) hg k0 k1 (q0m8 oR (q0m7 h.2.1 (by omega)) (i := i) (by omega)) (q0m8 oZ (q0m7 h.2.2.2 (by omega)) (i := i) (by omega)) (by omega) h9
        rw [q0q3 g s t 1 (by omega) (by omega), q0q4 g s t 1 (by omega) (by omega), q14v (by omega) (q0ld h9), q14v (by omega) (q0li h9)] at hu
        simp only [nodes, rows, q0qa] at hu
        simp -implicitDefEqProofs only [go_sem, evR, ints, rows, rat, rats, nodes, q0qa, evT, a1, decide_eq_true (show (i : Int) < ((sets g 1).length : Int) by omega), List.getElem?_cons_zero, List.getElem?_cons_succ, opR, Nat.reduceBEq]
        repeat (first | refine ⟨by omega, ?_⟩ | refine ⟨by rw [q0l0]; omega, ?_⟩)
        simp only [evT] at hu
        refine q002.ref hu [1000000000] [] rfl Try.call210 (by simp) ?_ (by simp) (fun e R' hR => ?_) (.inl rfl) ?_
        · simp -implicitDefEqProofs only [srR, Nat.reduceEqDiff, ↓reduceIte, ints, rows, intsO, q0qa]
        · simp -implicitDefEqProofs only [agR, Nat.reduceLeDiff, Nat.reduceSub, vaR, go_sem, ints, rows, rat, rats, q0p1, rtR, intsO, q0qa]
        simp -implicitDefEqProofs only [clR, Nat.reduceLeDiff, go_sem, evR, rat]
        refine hn2 _ (i + 1) (Weak.of _ _ [some 1000000000] (by simp) (by simp) ?_ ?_) (by omega) (by omega)
        · simp -implicitDefEqProofs only [ints, rows, Nat.reduceBEq, wkR, Nat.reduceEqDiff, ↓reduceIte, wrR, nodes, evT, q0lb h9 (by omega)]
        · exact ⟨⟨_, rfl, .refl _⟩, rfl, trivial⟩
      · have hil : i = (sets g 1).length := by omega
        have m1 : mixL (q14y g s t 1 x.r1) x.r1 i = q14y g s t 1 x.r1 := by rw [hil, ← lR]; exact q14s (by omega)
        have m2 : mixL (q14z g s t 1 x.s1) x.s1 i = q14z g s t 1 x.s1 := by rw [hil, ← lZ]; exact q14s (by omega)
        rw [m1, m2]
        simp -implicitDefEqProofs only [go_sem, evR, ints, rows, rat, rats, nodes, q0qa, evT, decide_eq_false (show ¬ (i : Int) < ((sets g 1).length : Int) by omega)]
        refine he2 _ _ ?_
        simp -implicitDefEqProofs only [go_sem, evR, ints, rows, rat, rats]
        refine hn _ 2 (Weak.of _ _ [some 1000000000] (by simp) (by simp) ?_ ?_) (by omega) (by omega)
        · simp -implicitDefEqProofs only [ints, rows, Nat.reduceBEq, wkR, Nat.reduceEqDiff, ↓reduceIte, wrR, nodes, evT, w2']
        · exact ⟨⟨_, rfl, .refl _⟩, rfl, trivial⟩
    | 2, _ =>
      simp -implicitDefEqProofs only [go_sem, evR, ints, rows, rat, rats, itS, nodes, q0qa, decide_eq_false (show ¬ (2 : Int) < 2 by omega), Int.natCast_zero, Int.cast_ofNat_Int]
      refine he _ _ ?_
      simp -implicitDefEqProofs only [go_sem, evR, ints, rows, rat, rats, itS, nodes, q0qa, opR, Nat.reduceBEq]
end
def ssS (g : Gm) (s t : List (List Int)) (x : RS) : Nat -> T
  | 0 => .box [nodes g.nd, rows g.w, rows g.v, .arr 1 [q0qa x.r0, q0qa x.r1], .arr 1 [q0qa x.s0, q0qa x.s1]]
  | 1 => .box [nodes g.nd, rows g.w, rows g.v, .arr 1 [q0qa (q14y g s t 0 x.r0), q0qa x.r1], .arr 1 [q0qa (q14z g s t 0 x.s0), q0qa x.s1]]
  | _ => .box [nodes g.nd, rows g.w, rows g.v, .arr 1 [q0qa (q14y g s t 0 x.r0), q0qa (q14y g s t 1 x.r1)], .arr 1 [q0qa (q14z g s t 0 x.s0), q0qa (q14z g s t 1 x.s1)]]
section
attribute [-go_sem] q0i5 q0id fldC lenC idxC q0ip q0lp
set_option maxHeartbeats 2000000 in
theorem q0sz (g : Gm) (hg : q0fl g = true) (x : RS) {n : Nat} (hn : n <= 900) (h : okRS g n x) : Fun Try.prog 169 [ssB g x] [.own 1000000000] fun o r => o = [ssB g (q15q g x)] /\ r = .tup [] := by
  obtain ⟨p1, p2, p3, p4, p5⟩ := q0fn hg
  obtain ⟨t1, t2, t3, t4⟩ := q0g0 p1
  obtain ⟨k0, k1, _, _⟩ := q152 hg (by omega) h
  have k0 := q0nx k0
  have k1 := q0nx k1
  have w1 : IntKind.i64.wrap 1 = 1 := rfl
  have w2' : IntKind.i64.wrap (1 + 1) = 2 := rfl
  refine q0cc (by simp) ?_
  simp -implicitDefEqProofs only [go_sem, evR, ints, rows, rat, rats, q05e, ssB, nodes, q0qa, opR, Nat.reduceBEq]
  refine ⟨_, Weak.trans (Weak.open 1000000000 3 501 rfl rfl rfl (by decide) rfl) (Weak.trans (Weak.open 501 0 502 rfl rfl rfl (by decide) rfl) (Weak.open 501 1 503 rfl rfl rfl (by decide) rfl)), ?_⟩
  simp -implicitDefEqProofs only [go_sem, evR, ints, rows, rat, rats, q0qa, opR, Nat.reduceBEq]
  have hs0 := q0t0 0 x.r0 (q0m9 hg (.inl rfl) h.1) (by omega)
  refine q000.res hs0 [502] rfl Try.call111 (fun e R' hR => ?_) (.inr ⟨trivial, q0qb _, trivial⟩) ?_
  · have hq502 := (hR 502).resolve_left (by simp -implicitDefEqProofs only [go_sem, evR, ints, rows, rat, rats, not_false_eq_true])
    simp -implicitDefEqProofs only [go_sem, evR, ints, rows, rat, rats] at hq502
    simp -implicitDefEqProofs only [agR, Nat.reduceLeDiff, Nat.reduceSub, vaR, go_sem, ints, rows, rat, rats, q0p1, rtR, intsO, q0qa, hq502]
  simp -implicitDefEqProofs only [clR, Nat.reduceLeDiff, go_sem, evR, rat, opR, Nat.reduceBEq]
  have hs1 := q0t0 1 x.r1 (q0m9 hg (.inr rfl) h.2.1) (by omega)
  refine q000.res hs1 [503] rfl Try.call111 (fun e R' hR => ?_) (.inr ⟨trivial, q0qb _, trivial⟩) ?_
  · have hq503 := (hR 503).resolve_left (by simp -implicitDefEqProofs only [go_sem, evR, ints, rows, rat, rats, not_false_eq_true])
    simp -implicitDefEqProofs only [go_sem, evR, ints, rows, rat, rats] at hq503
    simp -implicitDefEqProofs only [agR, Nat.reduceLeDiff, Nat.reduceSub, vaR, go_sem, ints, rows, rat, rats, q0p1, rtR, intsO, q0qa, hq503]
  simp -implicitDefEqProofs only [clR, Nat.reduceLeDiff, go_sem, evR, rat, opR, Nat.reduceBEq]
  have hstep : q15q g x = ⟨q14y g (stM x.r0) (stM x.r1) 0 x.r0, q14y g (stM x.r0) (stM x.r1) 1 x.r1, q14z g (stM x.r0) (stM x.r1) 0 x.s0, q14z g (stM x.r0) (stM x.r1) 1 x.s1⟩ := rfl
  rw [hstep]
  clear hs0 hs1 hstep
  generalize stM x.r0 = s at k0 ⊢
  generalize stM x.r1 = t at k1 ⊢
  refine ⟨_, Weak.trans (Weak.close 501 1 503 rfl rfl (by decide) rfl (by simp)) (Weak.trans (Weak.close1 501 0 502 rfl rfl (by decide) rfl) (Weak.trans (Weak.close1 1000000000 3 501 rfl rfl (by decide) rfl) (Weak.trans (Weak.share 2 rfl) (Weak.share 3 rfl)))), ?_⟩
  refine SemC.loopR (σ := Nat) (fun q => St.of [(0, .own 1000000000), (2, .t (.pin [.i 0, rows s] 0)), (3, .t (.pin [.i 1, rows t] 0)), (4, .t (.i q))] [(1000000000, ssS g s t x q)]) (fun q => q <= 2) (fun q => 2 - q) 0 (Weak.of _ _ [some 1000000000] (by simp) (by simp) ?_ ?_) (by omega) fun q hq R hn hr he => ?_
  · simp -implicitDefEqProofs only [ints, rows, Nat.reduceBEq, wkR, Nat.reduceEqDiff, ↓reduceIte, wrR, q0rg, T.toSh, T.toShL, q0vg, nodes]
  · exact ⟨⟨_, rfl, .refl _⟩, rfl, trivial⟩
  · match q, hq with
    | 0, _ =>
      have hsl := q15m hg 0
      have nR := q0le g s t 0 x.r0
      have nZ := q0lj g s t 0 x.s0
      have lR : x.r0.length = (sets g 0).length := h.1.1
      have lZ : x.s0.length = (sets g 0).length := h.2.2.1.1
      simp -implicitDefEqProofs only [go_sem, evR, ints, rows, rat, rats, ssS, nodes, q0qa, decide_eq_true (show (0 : Int) < 2 by omega), show ((0 : Int) == 1) = false from rfl, show ((1 : Int) == 1) = true from rfl, Int.natCast_zero, Int.cast_ofNat_Int, opR, Nat.reduceBEq]
      have hp := q0h9 g 0 t1.2 p2.2
      simp only [q0qa] at hp
      refine q006.res hp [] rfl Try.call186 ?_ (.inl rfl) ?_
      · simp -implicitDefEqProofs only [agR, Nat.reduceLeDiff, Nat.reduceSub, vaR, go_sem, ints, rows, rat, rats, q0p1, rtR, intsO, q0qa]
      simp -implicitDefEqProofs only [clR, Nat.reduceLeDiff, go_sem, evR, rat]
      refine SemC.loopR (σ := Nat) (fun i => St.of [(0, .own 1000000000), (2, .t (.pin [.i 0, rows s] 0)), (3, .t (.pin [.i 1, rows t] 0)), (4, .t (.i 0)), (5, .own 105), (6, .t (rows (sets g 0))), (7, .t (.i i))] [(1000000000, .box [nodes g.nd, rows g.w, rows g.v, .arr 1 [q0qa (mixL (q14y g s t 0 x.r0) x.r0 i), q0qa x.r1], .arr 1 [q0qa (mixL (q14z g s t 0 x.s0) x.s0 i), q0qa x.s1]]), (105, .box [.i 0, rows s])]) (fun i => i <= (sets g 0).length) (fun i => (sets g 0).length - i) 0 (Weak.trans (Weak.share 40 rfl) (Weak.of _ _ [some 1000000000, some 5] (by simp) (by simp) ?_ ?_)) (by simp) fun i hi R2 hn2 hr2 he2 => ?_
      · simp -implicitDefEqProofs only [ints, rows, Nat.reduceBEq, wkR, Nat.reduceEqDiff, ↓reduceIte, wrR, q0rg, T.toSh, q0vg, nodes]
      · refine ⟨⟨_, rfl, ?_⟩, rfl, ⟨_, rfl, .refl _⟩, rfl, trivial⟩
        rw [q14w, q14w]; exact .refl _
      rcases Nat.lt_or_ge i (sets g 0).length with h9 | h9
      · obtain ⟨a1, a2, a3, a4, a5, a6⟩ := q15l h9
        obtain ⟨b1, b2⟩ := q0ri hg (.inl rfl : (0 : Int) = 0 ∨ (0 : Int) = 1) h9
        obtain ⟨r, hr0, hr0', hrl, hrb⟩ := q150 h.1 h9
        obtain ⟨z, hz0, hz0', hzl, hzb⟩ := q150 h.2.2.1 h9
        obtain ⟨y1, y2, y3, y4⟩ := q14r hg (.inl rfl : (0 : Int) = 0 ∨ (0 : Int) = 1) (q153 k0 k1 (.inl rfl : (0 : Int) = 0 ∨ (0 : Int) = 1)).1 h9
        obtain ⟨f1, f2⟩ := q15f hg k0 k1 (.inl rfl : (0 : Int) = 0 ∨ (0 : Int) = 1) h.1 h9
        obtain ⟨f3, f4⟩ := q15g hg k0 k1 (.inl rfl : (0 : Int) = 0 ∨ (0 : Int) = 1) h.2.2.1 h9
        have hgR := q0ld (s := s) (t := t) (R := x.r0) h9
        have hgZ := q0li (s := s) (t := t) (R := x.s0) h9
        have hRd : rowR g s t 0 x.r0 i = updR r (cnts g s t 0 (setN g 0 i) (setC g 0 i)) (q14l ((q10l 0 s t).getD i []) (cnts g s t 0 (setN g 0 i) (setC g 0 i))) := by rw [rowR, hr0']
        have hSd : rowS g s t 0 x.s0 i = updW z ((q10l 0 s t).getD i []) (wayP g (q10l 0 s t) 0 (setC g 0 i) (setN g 0 i)) := by rw [rowS, hz0']
        have hqs : s[i]? = some ((q10l 0 s t).getD i []) := y1
        generalize hqq : (q10l 0 s t).getD i [] = qv at y1 y2 y3 y4 hRd hSd hqs
        generalize hnr : rowR g s t 0 x.r0 i = nr at f1 f2 hRd hgR
        generalize hnz : rowS g s t 0 x.s0 i = nz at f3 f4 hSd hgZ
        generalize setN g 0 i = n at a1 a2 a4 a5 hRd hSd
        generalize setC g 0 i = c at a1 a3 hRd hSd
        have h2 : (g.nd.getD n nd0).p ≠ 2 := by omega
        have hcb := q149 hg k0 k1 (.inl rfl : (0 : Int) = 0 ∨ (0 : Int) = 1) a2 h2 a3
        have hcl := q14b g s t 0 n c
        have hcc := q0st hg k0 k1 a2 h2 a3
        have hway := q0sy hg (.inl rfl : (0 : Int) = 0 ∨ (0 : Int) = 1) (q153 k0 k1 (.inl rfl : (0 : Int) = 0 ∨ (0 : Int) = 1)).1 a3 a2
        have hwb := q154 hg (q153 k0 k1 (.inl rfl : (0 : Int) = 0 ∨ (0 : Int) = 1)).1 a3 a2 h2
        have hMb := q14n y3 hcb (cnts g s t 0 n c).length
        have hMd : q14l qv (cnts g s t 0 n c) = q14m qv (cnts g s t 0 n c) (cnts g s t 0 n c).length := rfl
        rw [show q10l 0 s t = s from rfl] at hway hwb hSd
        simp only [intsO] at hcc
        simp -implicitDefEqProofs only [go_sem, evR, ints, rows, rat, rats, nodes, q0qa, a1, decide_eq_true (show (i : Int) < ((sets g 0).length : Int) by omega), List.getElem?_cons_zero, List.getElem?_cons_succ, opR, Nat.reduceBEq]
        repeat (first | refine ⟨by omega, ?_⟩ | refine ⟨by rw [q0l0]; omega, ?_⟩)
        refine q000.res hcc [] rfl Try.call208 (fun e R' hR => ?_) (.inl rfl) ?_
        · simp -implicitDefEqProofs only [agR, Nat.reduceLeDiff, Nat.reduceSub, vaR, go_sem, ints, rows, rat, rats, q0p1, rtR, intsO, q0qa]
        simp -implicitDefEqProofs only [clR, Nat.reduceLeDiff, go_sem, evR, rat, opR, Nat.reduceBEq]
        generalize wayP g s 0 c n = w at hwb hSd hway
        generalize cnts g s t 0 n c = C at hcb hcl hMb hMd hRd
        refine SemC.loopR (σ := Nat) (fun k => St.of [(0, .own 1000000000), (2, .t (.pin [.i 0, rows s] 0)), (3, .t (.pin [.i 1, rows t] 0)), (4, .t (.i 0)), (5, .own 105), (6, .t (rows (sets g 0))), (7, .t (.i i)), (8, .own 98), (9, .t (.i (q14m qv C k))), (10, .t (.i k))] [(1000000000, .box [nodes g.nd, rows g.w, rows g.v, .arr 1 [q0qa (mixL (q14y g s t 0 x.r0) x.r0 i), q0qa x.r1], .arr 1 [q0qa (mixL (q14z g s t 0 x.s0) x.s0 i), q0qa x.s1]]), (105, .box [.i 0, rows s]), (98, intsO C)]) (fun k => k <= C.length) (fun k => C.length - k) 0 (Weak.of _ _ [some 1000000000, some 105, some 66] (by simp) (by simp) ?_ ?_) (by omega) fun k hk R3 hn3 hr3 he3 => ?_
        · simp -implicitDefEqProofs only [ints, rows, Nat.reduceBEq, wkR, Nat.reduceEqDiff, ↓reduceIte, wrR, nodes, q14p]
        · exact ⟨⟨_, rfl, .refl _⟩, rfl, ⟨_, rfl, .refl _⟩, rfl, ⟨_, rfl, .refl _⟩, rfl, trivial⟩
        rcases Nat.lt_or_ge k C.length with h8 | h8
        · obtain ⟨v, hv⟩ : ∃ v, C[k]? = some v := ⟨_, List.getElem?_eq_getElem h8⟩
          obtain ⟨y, hy⟩ : ∃ y, qv[k]? = some y := ⟨_, List.getElem?_eq_getElem (by omega)⟩
          have hyb := y3 y (List.mem_of_getElem? hy)
          have hvb := hcb v (List.mem_of_getElem? hv)
          obtain ⟨m1, m2⟩ := q0kl hyb.1 hvb.1 hvb.2
          have hms := q14o hy hv
          have hm1 := q14n y3 hcb k
          have hm2 := q14n y3 hcb (k + 1)
          have hqsl := (List.getElem?_eq_some_iff.1 hqs).1
          simp -implicitDefEqProofs only [go_sem, evR, ints, rows, rat, rats, nodes, q0qa, intsO, hqs, hy, hv, decide_eq_true (show (k : Int) < (C.length : Int) by omega), opR, Nat.reduceBEq]
          repeat (first | refine ⟨by omega, ?_⟩ | refine ⟨by rw [q0l0]; omega, ?_⟩)
          refine hn3 _ (k + 1) (Weak.of _ _ [some 1000000000, some 105, some 98] (by simp) (by simp) ?_ ?_) (by omega) (by omega)
          · simp -implicitDefEqProofs only [ints, rows, Nat.reduceBEq, wkR, Nat.reduceEqDiff, ↓reduceIte, wrR, nodes, q0lb h8 (show C.length <= 1000000000000 by omega), wrap64 (n := y * v) (by omega) (by omega), ← hms, wrap64 (n := q14m qv C (k + 1)) (by omega) (by omega)]
          · exact ⟨⟨_, rfl, .refl _⟩, rfl, ⟨_, rfl, .refl _⟩, rfl, ⟨_, rfl, .refl _⟩, rfl, trivial⟩
        have hkC : k = C.length := by omega
        subst hkC
        rw [← hMd]
        rw [← hMd] at hMb
        generalize q14l qv C = M at hMb hRd ⊢
        simp -implicitDefEqProofs only [go_sem, evR, ints, rows, rat, rats, nodes, q0qa, intsO, a1, decide_eq_false (show ¬ (C.length : Int) < (C.length : Int) by omega), opR, Nat.reduceBEq]
        refine he3 _ _ ?_
        simp -implicitDefEqProofs only [go_sem, evR, ints, rows, rat, rats, nodes, q0qa, intsO, a1, List.getElem?_cons_zero, List.getElem?_cons_succ, opR, Nat.reduceBEq]
        repeat (first | refine ⟨by omega, ?_⟩ | refine ⟨by rw [q0l0]; omega, ?_⟩)
        refine q004.pure hway [] rfl Try.call209 (fun e R' hR => ?_) (by first | trivial | simp [T.noSh, T.noShL, rat]) (fun _ => rfl) ?_
        · simp -implicitDefEqProofs only [agR, Nat.reduceLeDiff, Nat.reduceSub, vaR, go_sem, ints, rows, rat, rats, q0p1, rtR, intsO, q0qa]
        simp -implicitDefEqProofs only [go_sem, evR, ints, rows, rat, rats]
        have hnl : nr.length = r.length := by omega
        have hnz' : nz.length = z.length := by omega
        have hLR : (mixL (q14y g s t 0 x.r0) x.r0 i).length = x.r0.length := q14u (by omega) (by omega)
        have hLZ : (mixL (q14z g s t 0 x.s0) x.s0 i).length = x.s0.length := q14u (by omega) (by omega)
        have hmR := q14v (new := q14y g s t 0 x.r0) (old := x.r0) (by omega) hgR
        have hmZ := q14v (new := q14z g s t 0 x.s0) (old := x.s0) (by omega) hgZ
        have hgR0 : (mixL (q14y g s t 0 x.r0) x.r0 i)[i]? = some r := by rw [q14t (by omega) (by omega)]; exact hr0
        have hgZ0 : (mixL (q14z g s t 0 x.s0) x.s0 i)[i]? = some z := by rw [q14t (by omega) (by omega)]; exact hz0
        refine SemC.loopR (σ := Nat) (fun k => St.of [(0, .own 1000000000), (2, .t (.pin [.i 0, rows s] 0)), (3, .t (.pin [.i 1, rows t] 0)), (4, .t (.i 0)), (5, .own 105), (6, .t (rows (sets g 0))), (7, .t (.i i)), (8, .own 98), (9, .t (.i M)), (11, .t (.i w)), (12, .t (.i k))] [(1000000000, .box [nodes g.nd, rows g.w, rows g.v, .arr 1 [q0qa ((mixL (q14y g s t 0 x.r0) x.r0 i).set i (mixL nr r k)), q0qa x.r1], .arr 1 [q0qa ((mixL (q14z g s t 0 x.s0) x.s0 i).set i (mixL nz z k)), q0qa x.s1]]), (105, .box [.i 0, rows s]), (98, intsO C)]) (fun k => k <= C.length) (fun k => C.length - k) 0 (Weak.of _ _ [some 1000000000, some 105, some 98] (by simp) (by simp) ?_ ?_) (by omega) fun k hk R4 hn4 hr4 he4 => ?_
        · simp -implicitDefEqProofs only [ints, rows, Nat.reduceBEq, wkR, Nat.reduceEqDiff, ↓reduceIte, wrR, nodes]
        · refine ⟨⟨_, rfl, ?_⟩, rfl, ⟨_, rfl, .refl _⟩, rfl, ⟨_, rfl, .refl _⟩, rfl, trivial⟩
          rw [q14w, q14w, q0r2 hgR0, q0r2 hgZ0]; exact .refl _
        rcases Nat.lt_or_ge k C.length with h8 | h8
        · obtain ⟨v, hv⟩ : ∃ v, C[k]? = some v := ⟨_, List.getElem?_eq_getElem h8⟩
          obtain ⟨y, hy⟩ : ∃ y, qv[k]? = some y := ⟨_, List.getElem?_eq_getElem (by omega)⟩
          obtain ⟨x0, hx0⟩ : ∃ x0, r[k]? = some x0 := ⟨_, List.getElem?_eq_getElem (by omega)⟩
          obtain ⟨x1, hx1⟩ : ∃ x1, z[k]? = some x1 := ⟨_, List.getElem?_eq_getElem (by omega)⟩
          have hyb := y3 y (List.mem_of_getElem? hy)
          have hvb := hcb v (List.mem_of_getElem? hv)
          have hb0 := hrb x0 (List.mem_of_getElem? hx0)
          have hb1 := hzb x1 (List.mem_of_getElem? hx1)
          have hwy : 0 <= w * y /\ w * y <= 12960000 * 60 := ⟨Int.mul_nonneg hwb.1 hyb.1, Int.mul_le_mul hwb.2 hyb.2 hyb.1 (by decide)⟩
          have hnr1 : nr[k]? = some (x0 + (60 * v - M)) := by rw [hRd]; exact q15t hx0 hv
          have hnz1 : nz[k]? = some (x1 + w * y) := by rw [hSd]; exact q15v hx1 hy
          have hg1 : (mixL nr r k)[k]? = some x0 := by rw [q14t hnl (by omega)]; exact hx0
          have hg2 : (mixL nz z k)[k]? = some x1 := by rw [q14t hnz' (by omega)]; exact hx1
          have hl1 : (mixL nr r k).length = r.length := q14u hnl (by omega)
          have hl2 : (mixL nz z k).length = z.length := q14u hnz' (by omega)
          have hqsl := (List.getElem?_eq_some_iff.1 hqs).1
          have hc1 : (List.map intsO ((mixL (q14y g s t 0 x.r0) x.r0 i).set i (mixL nr r k)))[i]? = some (intsO (mixL nr r k)) := by rw [List.getElem?_map, List.getElem?_set_self (by omega)]; rfl
          have hc2 : (List.map intsO ((mixL (q14z g s t 0 x.s0) x.s0 i).set i (mixL nz z k)))[i]? = some (intsO (mixL nz z k)) := by rw [List.getElem?_map, List.getElem?_set_self (by omega)]; rfl
          have hc3 : ((List.map intsO ((mixL (q14y g s t 0 x.r0) x.r0 i).set i (mixL nr r k))).set i T.any)[i]? = some T.any := List.getElem?_set_self (by rw [List.length_map, List.length_set]; omega)
          have hc4 : ((List.map intsO ((mixL (q14z g s t 0 x.s0) x.s0 i).set i (mixL nz z k))).set i T.any)[i]? = some T.any := List.getElem?_set_self (by rw [List.length_map, List.length_set]; omega)
          simp -implicitDefEqProofs only [go_sem, evR, ints, rows, rat, rats, nodes, q0qa, intsO, hy, decide_eq_true (show (k : Int) < (C.length : Int) by omega), opR, Nat.reduceBEq]
          refine ⟨_, Weak.trans (Weak.open 1000000000 3 501 rfl rfl rfl (by decide) rfl) (Weak.trans (Weak.open 501 0 502 rfl rfl rfl (by decide) rfl) (Weak.open 502 i 503 rfl hc1 rfl (by decide) rfl)), ?_⟩
          simp -implicitDefEqProofs only [go_sem, evR, ints, rows, rat, rats, q0qa, intsO, hg1, hc1, hc3, hl1, hLR, hv, List.length_set, opR, Nat.reduceBEq]
          repeat (first | refine ⟨by omega, ?_⟩ | refine ⟨by rw [q0l0]; omega, ?_⟩)
          refine ⟨_, Weak.trans (Weak.close1 502 i 503 rfl rfl (by decide) hc3) (Weak.trans (Weak.close1 501 0 502 rfl rfl (by decide) rfl) (Weak.trans (Weak.close1 1000000000 3 501 rfl rfl (by decide) rfl) (Weak.trans (Weak.open 1000000000 4 504 rfl rfl rfl (by decide) rfl) (Weak.trans (Weak.open 504 0 505 rfl rfl rfl (by decide) rfl) (Weak.open 505 i 506 rfl hc2 rfl (by decide) rfl))))), ?_⟩
          simp -implicitDefEqProofs only [go_sem, evR, ints, rows, rat, rats, q0qa, intsO, hg2, hc2, hc4, hl2, hLZ, hv, hqs, hy, List.length_set, opR, Nat.reduceBEq]
          repeat (first | refine ⟨by omega, ?_⟩ | refine ⟨by rw [q0l0]; omega, ?_⟩)
          have wA : IntKind.i64.wrap (60 * v) = 60 * v := wrap64 (by omega) (by omega)
          have wB : IntKind.i64.wrap (x0 + 60 * v) = x0 + 60 * v := wrap64 (by omega) (by omega)
          have wC : IntKind.i64.wrap (x0 + 60 * v - M) = x0 + (60 * v - M) := by rw [wrap64 (by omega) (by omega)]; omega
          have wD : IntKind.i64.wrap (w * y) = w * y := wrap64 (by omega) (by omega)
          have wE : IntKind.i64.wrap (x1 + w * y) = x1 + w * y := wrap64 (by omega) (by omega)
          refine ⟨_, Weak.trans (Weak.close1 505 i 506 rfl rfl (by decide) hc4) (Weak.trans (Weak.close1 504 0 505 rfl rfl (by decide) rfl) (Weak.close1 1000000000 4 504 rfl rfl (by decide) rfl)), ?_⟩
          simp -implicitDefEqProofs only [go_sem, evR, ints, rows, rat, rats, q0qa, intsO, opR, Nat.reduceBEq]
          refine hn4 _ (k + 1) (Weak.of _ _ [some 1000000000, some 105, some 98] (by simp) (by simp) ?_ ?_) (by omega) (by omega)
          · simp -implicitDefEqProofs only [ints, rows, Nat.reduceBEq, wkR, Nat.reduceEqDiff, ↓reduceIte, wrR, nodes, q0lb h8 (show C.length <= 1000000000000 by omega)]
          · refine ⟨⟨_, rfl, ?_⟩, rfl, ⟨_, rfl, .refl _⟩, rfl, ⟨_, rfl, .refl _⟩, rfl, trivial⟩
            rw [← q14v hnl hnr1, ← q14v hnz' hnz1]
            simp only [q0qa, intsO, List.map_set, List.set_set, wA, wB, wC, wD, wE, nodes, rows]
            exact .refl _
        · have m1 : mixL nr r k = nr := by rw [show k = r.length by omega]; exact q14s hnl
          have m2 : mixL nz z k = nz := by rw [show k = z.length by omega]; exact q14s hnz'
          rw [m1, m2, hmR, hmZ]
          simp -implicitDefEqProofs only [go_sem, evR, ints, rows, rat, rats, nodes, q0qa, intsO, decide_eq_false (show ¬ (k : Int) < (C.length : Int) by omega), opR, Nat.reduceBEq]
          refine he4 _ _ ?_
          simp -implicitDefEqProofs only [go_sem, evR, ints, rows, rat, rats]
          refine hn2 _ (i + 1) (Weak.of _ _ [some 1000000000, some 105] (by simp) (by simp) ?_ ?_) (by omega) (by omega)
          · simp -implicitDefEqProofs only [ints, rows, Nat.reduceBEq, wkR, Nat.reduceEqDiff, ↓reduceIte, wrR, nodes, q0lb h9 (by omega)]
          · exact ⟨⟨_, rfl, .refl _⟩, rfl, ⟨_, rfl, .refl _⟩, rfl, trivial⟩
      · have hil : i = (sets g 0).length := by omega
        have m1 : mixL (q14y g s t 0 x.r0) x.r0 i = q14y g s t 0 x.r0 := by rw [hil, ← lR]; exact q14s (by omega)
        have m2 : mixL (q14z g s t 0 x.s0) x.s0 i = q14z g s t 0 x.s0 := by rw [hil, ← lZ]; exact q14s (by omega)
        rw [m1, m2]
        simp -implicitDefEqProofs only [go_sem, evR, ints, rows, rat, rats, nodes, q0qa, decide_eq_false (show ¬ (i : Int) < ((sets g 0).length : Int) by omega)]
        refine he2 _ _ ?_
        simp -implicitDefEqProofs only [go_sem, evR, ints, rows, rat, rats]
        refine hn _ 1 (Weak.of _ _ [some 1000000000] (by simp) (by simp) ?_ ?_) (by omega) (by omega)
        · simp -implicitDefEqProofs only [ints, rows, Nat.reduceBEq, wkR, Nat.reduceEqDiff, ↓reduceIte, wrR, nodes, Int.zero_add, w1]
        · exact ⟨⟨_, rfl, .refl _⟩, rfl, trivial⟩
    | 1, _ =>
      have hsl := q15m hg 1
      have nR := q0le g s t 1 x.r1
      have nZ := q0lj g s t 1 x.s1
      have lR : x.r1.length = (sets g 1).length := h.2.1.1
      have lZ : x.s1.length = (sets g 1).length := h.2.2.2.1
      simp -implicitDefEqProofs only [go_sem, evR, ints, rows, rat, rats, ssS, nodes, q0qa, decide_eq_true (show (1 : Int) < 2 by omega), show ((0 : Int) == 1) = false from rfl, show ((1 : Int) == 1) = true from rfl, Int.natCast_zero, Int.cast_ofNat_Int, opR, Nat.reduceBEq]
      have hp := q0h9 g 1 t1.2 p2.2
      simp only [q0qa] at hp
      refine q006.res hp [] rfl Try.call186 ?_ (.inl rfl) ?_
      · simp -implicitDefEqProofs only [agR, Nat.reduceLeDiff, Nat.reduceSub, vaR, go_sem, ints, rows, rat, rats, q0p1, rtR, intsO, q0qa]
      simp -implicitDefEqProofs only [clR, Nat.reduceLeDiff, go_sem, evR, rat]
      refine SemC.loopR (σ := Nat) (fun i => St.of [(0, .own 1000000000), (2, .t (.pin [.i 0, rows s] 0)), (3, .t (.pin [.i 1, rows t] 0)), (4, .t (.i 1)), (5, .own 105), (6, .t (rows (sets g 1))), (7, .t (.i i))] [(1000000000, .box [nodes g.nd, rows g.w, rows g.v, .arr 1 [q0qa (q14y g s t 0 x.r0), q0qa (mixL (q14y g s t 1 x.r1) x.r1 i)], .arr 1 [q0qa (q14z g s t 0 x.s0), q0qa (mixL (q14z g s t 1 x.s1) x.s1 i)]]), (105, .box [.i 1, rows t])]) (fun i => i <= (sets g 1).length) (fun i => (sets g 1).length - i) 0 (Weak.trans (Weak.share 40 rfl) (Weak.of _ _ [some 1000000000, some 5] (by simp) (by simp) ?_ ?_)) (by simp) fun i hi R2 hn2 hr2 he2 => ?_
      · simp -implicitDefEqProofs only [ints, rows, Nat.reduceBEq, wkR, Nat.reduceEqDiff, ↓reduceIte, wrR, q0rg, T.toSh, q0vg, nodes]
      · refine ⟨⟨_, rfl, ?_⟩, rfl, ⟨_, rfl, .refl _⟩, rfl, trivial⟩
        rw [q14w, q14w]; exact .refl _
      rcases Nat.lt_or_ge i (sets g 1).length with h9 | h9
      · obtain ⟨a1, a2, a3, a4, a5, a6⟩ := q15l h9
        obtain ⟨b1, b2⟩ := q0ri hg (.inr rfl : (1 : Int) = 0 ∨ (1 : Int) = 1) h9
        obtain ⟨r, hr0, hr0', hrl, hrb⟩ := q150 h.2.1 h9
        obtain ⟨z, hz0, hz0', hzl, hzb⟩ := q150 h.2.2.2 h9
        obtain ⟨y1, y2, y3, y4⟩ := q14r hg (.inr rfl : (1 : Int) = 0 ∨ (1 : Int) = 1) (q153 k0 k1 (.inr rfl : (1 : Int) = 0 ∨ (1 : Int) = 1)).1 h9
        obtain ⟨f1, f2⟩ := q15f hg k0 k1 (.inr rfl : (1 : Int) = 0 ∨ (1 : Int) = 1) h.2.1 h9
        obtain ⟨f3, f4⟩ := q15g hg k0 k1 (.inr rfl : (1 : Int) = 0 ∨ (1 : Int) = 1) h.2.2.2 h9
        have hgR := q0ld (s := s) (t := t) (R := x.r1) h9
        have hgZ := q0li (s := s) (t := t) (R := x.s1) h9
        have hRd : rowR g s t 1 x.r1 i = updR r (cnts g s t 1 (setN g 1 i) (setC g 1 i)) (q14l ((q10l 1 s t).getD i []) (cnts g s t 1 (setN g 1 i) (setC g 1 i))) := by rw [rowR, hr0']
        have hSd : rowS g s t 1 x.s1 i = updW z ((q10l 1 s t).getD i []) (wayP g (q10l 1 s t) 1 (setC g 1 i) (setN g 1 i)) := by rw [rowS, hz0']
        have hqs : t[i]? = some ((q10l 1 s t).getD i []) := y1
        generalize hqq : (q10l 1 s t).getD i [] = qv at y1 y2 y3 y4 hRd hSd hqs
        generalize hnr : rowR g s t 1 x.r1 i = nr at f1 f2 hRd hgR
        generalize hnz : rowS g s t 1 x.s1 i = nz at f3 f4 hSd hgZ
        generalize setN g 1 i = n at a1 a2 a4 a5 hRd hSd
        generalize setC g 1 i = c at a1 a3 hRd hSd
        have h2 : (g.nd.getD n nd0).p ≠ 2 := by omega
        have hcb := q149 hg k0 k1 (.inr rfl : (1 : Int) = 0 ∨ (1 : Int) = 1) a2 h2 a3
        have hcl := q14b g s t 1 n c
        have hcc := q0su hg k0 k1 a2 h2 a3
        have hway := q0sy hg (.inr rfl : (1 : Int) = 0 ∨ (1 : Int) = 1) (q153 k0 k1 (.inr rfl : (1 : Int) = 0 ∨ (1 : Int) = 1)).1 a3 a2
        have hwb := q154 hg (q153 k0 k1 (.inr rfl : (1 : Int) = 0 ∨ (1 : Int) = 1)).1 a3 a2 h2
        have hMb := q14n y3 hcb (cnts g s t 1 n c).length
        have hMd : q14l qv (cnts g s t 1 n c) = q14m qv (cnts g s t 1 n c) (cnts g s t 1 n c).length := rfl
        rw [show q10l 1 s t = t from rfl] at hway hwb hSd
        simp only [intsO] at hcc
        simp -implicitDefEqProofs only [go_sem, evR, ints, rows, rat, rats, nodes, q0qa, a1, decide_eq_true (show (i : Int) < ((sets g 1).length : Int) by omega), List.getElem?_cons_zero, List.getElem?_cons_succ, opR, Nat.reduceBEq]
        repeat (first | refine ⟨by omega, ?_⟩ | refine ⟨by rw [q0l0]; omega, ?_⟩)
        refine q000.res hcc [] rfl Try.call208 (fun e R' hR => ?_) (.inl rfl) ?_
        · simp -implicitDefEqProofs only [agR, Nat.reduceLeDiff, Nat.reduceSub, vaR, go_sem, ints, rows, rat, rats, q0p1, rtR, intsO, q0qa]
        simp -implicitDefEqProofs only [clR, Nat.reduceLeDiff, go_sem, evR, rat, opR, Nat.reduceBEq]
        generalize wayP g t 1 c n = w at hwb hSd hway
        generalize cnts g s t 1 n c = C at hcb hcl hMb hMd hRd
        refine SemC.loopR (σ := Nat) (fun k => St.of [(0, .own 1000000000), (2, .t (.pin [.i 0, rows s] 0)), (3, .t (.pin [.i 1, rows t] 0)), (4, .t (.i 1)), (5, .own 105), (6, .t (rows (sets g 1))), (7, .t (.i i)), (8, .own 98), (9, .t (.i (q14m qv C k))), (10, .t (.i k))] [(1000000000, .box [nodes g.nd, rows g.w, rows g.v, .arr 1 [q0qa (q14y g s t 0 x.r0), q0qa (mixL (q14y g s t 1 x.r1) x.r1 i)], .arr 1 [q0qa (q14z g s t 0 x.s0), q0qa (mixL (q14z g s t 1 x.s1) x.s1 i)]]), (105, .box [.i 1, rows t]), (98, intsO C)]) (fun k => k <= C.length) (fun k => C.length - k) 0 (Weak.of _ _ [some 1000000000, some 105, some 66] (by simp) (by simp) ?_ ?_) (by omega) fun k hk R3 hn3 hr3 he3 => ?_
        · simp -implicitDefEqProofs only [ints, rows, Nat.reduceBEq, wkR, Nat.reduceEqDiff, ↓reduceIte, wrR, nodes, q14p]
        · exact ⟨⟨_, rfl, .refl _⟩, rfl, ⟨_, rfl, .refl _⟩, rfl, ⟨_, rfl, .refl _⟩, rfl, trivial⟩
        rcases Nat.lt_or_ge k C.length with h8 | h8
        · obtain ⟨v, hv⟩ : ∃ v, C[k]? = some v := ⟨_, List.getElem?_eq_getElem h8⟩
          obtain ⟨y, hy⟩ : ∃ y, qv[k]? = some y := ⟨_, List.getElem?_eq_getElem (by omega)⟩
          have hyb := y3 y (List.mem_of_getElem? hy)
          have hvb := hcb v (List.mem_of_getElem? hv)
          obtain ⟨m1, m2⟩ := q0kl hyb.1 hvb.1 hvb.2
          have hms := q14o hy hv
          have hm1 := q14n y3 hcb k
          have hm2 := q14n y3 hcb (k + 1)
          have hqsl := (List.getElem?_eq_some_iff.1 hqs).1
          simp -implicitDefEqProofs only [go_sem, evR, ints, rows, rat, rats, nodes, q0qa, intsO, hqs, hy, hv, decide_eq_true (show (k : Int) < (C.length : Int) by omega), opR, Nat.reduceBEq]
          repeat (first | refine ⟨by omega, ?_⟩ | refine ⟨by rw [q0l0]; omega, ?_⟩)
          refine hn3 _ (k + 1) (Weak.of _ _ [some 1000000000, some 105, some 98] (by simp) (by simp) ?_ ?_) (by omega) (by omega)
          · simp -implicitDefEqProofs only [ints, rows, Nat.reduceBEq, wkR, Nat.reduceEqDiff, ↓reduceIte, wrR, nodes, q0lb h8 (show C.length <= 1000000000000 by omega), wrap64 (n := y * v) (by omega) (by omega), ← hms, wrap64 (n := q14m qv C (k + 1)) (by omega) (by omega)]
          · exact ⟨⟨_, rfl, .refl _⟩, rfl, ⟨_, rfl, .refl _⟩, rfl, ⟨_, rfl, .refl _⟩, rfl, trivial⟩
        have hkC : k = C.length := by omega
        subst hkC
        rw [← hMd]
        rw [← hMd] at hMb
        generalize q14l qv C = M at hMb hRd ⊢
        simp -implicitDefEqProofs only [go_sem, evR, ints, rows, rat, rats, nodes, q0qa, intsO, a1, decide_eq_false (show ¬ (C.length : Int) < (C.length : Int) by omega), opR, Nat.reduceBEq]
        refine he3 _ _ ?_
        simp -implicitDefEqProofs only [go_sem, evR, ints, rows, rat, rats, nodes, q0qa, intsO, a1, List.getElem?_cons_zero, List.getElem?_cons_succ, opR, Nat.reduceBEq]
        repeat (first | refine ⟨by omega, ?_⟩ | refine ⟨by rw [q0l0]; omega, ?_⟩)
        refine q004.pure hway [] rfl Try.call209 (fun e R' hR => ?_) (by first | trivial | simp [T.noSh, T.noShL, rat]) (fun _ => rfl) ?_
        · simp -implicitDefEqProofs only [agR, Nat.reduceLeDiff, Nat.reduceSub, vaR, go_sem, ints, rows, rat, rats, q0p1, rtR, intsO, q0qa]
        simp -implicitDefEqProofs only [go_sem, evR, ints, rows, rat, rats]
        have hnl : nr.length = r.length := by omega
        have hnz' : nz.length = z.length := by omega
        have hLR : (mixL (q14y g s t 1 x.r1) x.r1 i).length = x.r1.length := q14u (by omega) (by omega)
        have hLZ : (mixL (q14z g s t 1 x.s1) x.s1 i).length = x.s1.length := q14u (by omega) (by omega)
        have hmR := q14v (new := q14y g s t 1 x.r1) (old := x.r1) (by omega) hgR
        have hmZ := q14v (new := q14z g s t 1 x.s1) (old := x.s1) (by omega) hgZ
        have hgR0 : (mixL (q14y g s t 1 x.r1) x.r1 i)[i]? = some r := by rw [q14t (by omega) (by omega)]; exact hr0
        have hgZ0 : (mixL (q14z g s t 1 x.s1) x.s1 i)[i]? = some z := by rw [q14t (by omega) (by omega)]; exact hz0
        refine SemC.loopR (σ := Nat) (fun k => St.of [(0, .own 1000000000), (2, .t (.pin [.i 0, rows s] 0)), (3, .t (.pin [.i 1, rows t] 0)), (4, .t (.i 1)), (5, .own 105), (6, .t (rows (sets g 1))), (7, .t (.i i)), (8, .own 98), (9, .t (.i M)), (11, .t (.i w)), (12, .t (.i k))] [(1000000000, .box [nodes g.nd, rows g.w, rows g.v, .arr 1 [q0qa (q14y g s t 0 x.r0), q0qa ((mixL (q14y g s t 1 x.r1) x.r1 i).set i (mixL nr r k))], .arr 1 [q0qa (q14z g s t 0 x.s0), q0qa ((mixL (q14z g s t 1 x.s1) x.s1 i).set i (mixL nz z k))]]), (105, .box [.i 1, rows t]), (98, intsO C)]) (fun k => k <= C.length) (fun k => C.length - k) 0 (Weak.of _ _ [some 1000000000, some 105, some 98] (by simp) (by simp) ?_ ?_) (by omega) fun k hk R4 hn4 hr4 he4 => ?_
        · simp -implicitDefEqProofs only [ints, rows, Nat.reduceBEq, wkR, Nat.reduceEqDiff, ↓reduceIte, wrR, nodes]
        · refine ⟨⟨_, rfl, ?_⟩, rfl, ⟨_, rfl, .refl _⟩, rfl, ⟨_, rfl, .refl _⟩, rfl, trivial⟩
          rw [q14w, q14w, q0r2 hgR0, q0r2 hgZ0]; exact .refl _
        rcases Nat.lt_or_ge k C.length with h8 | h8
        · obtain ⟨v, hv⟩ : ∃ v, C[k]? = some v := ⟨_, List.getElem?_eq_getElem h8⟩
          obtain ⟨y, hy⟩ : ∃ y, qv[k]? = some y := ⟨_, List.getElem?_eq_getElem (by omega)⟩
          obtain ⟨x0, hx0⟩ : ∃ x0, r[k]? = some x0 := ⟨_, List.getElem?_eq_getElem (by omega)⟩
          obtain ⟨x1, hx1⟩ : ∃ x1, z[k]? = some x1 := ⟨_, List.getElem?_eq_getElem (by omega)⟩
          have hyb := y3 y (List.mem_of_getElem? hy)
          have hvb := hcb v (List.mem_of_getElem? hv)
          have hb0 := hrb x0 (List.mem_of_getElem? hx0)
          have hb1 := hzb x1 (List.mem_of_getElem? hx1)
          have hwy : 0 <= w * y /\ w * y <= 12960000 * 60 := ⟨Int.mul_nonneg hwb.1 hyb.1, Int.mul_le_mul hwb.2 hyb.2 hyb.1 (by decide)⟩
          have hnr1 : nr[k]? = some (x0 + (60 * v - M)) := by rw [hRd]; exact q15t hx0 hv
          have hnz1 : nz[k]? = some (x1 + w * y) := by rw [hSd]; exact q15v hx1 hy
          have hg1 : (mixL nr r k)[k]? = some x0 := by rw [q14t hnl (by omega)]; exact hx0
          have hg2 : (mixL nz z k)[k]? = some x1 := by rw [q14t hnz' (by omega)]; exact hx1
          have hl1 : (mixL nr r k).length = r.length := q14u hnl (by omega)
          have hl2 : (mixL nz z k).length = z.length := q14u hnz' (by omega)
          have hqsl := (List.getElem?_eq_some_iff.1 hqs).1
          have hc1 : (List.map intsO ((mixL (q14y g s t 1 x.r1) x.r1 i).set i (mixL nr r k)))[i]? = some (intsO (mixL nr r k)) := by rw [List.getElem?_map, List.getElem?_set_self (by omega)]; rfl
          have hc2 : (List.map intsO ((mixL (q14z g s t 1 x.s1) x.s1 i).set i (mixL nz z k)))[i]? = some (intsO (mixL nz z k)) := by rw [List.getElem?_map, List.getElem?_set_self (by omega)]; rfl
          have hc3 : ((List.map intsO ((mixL (q14y g s t 1 x.r1) x.r1 i).set i (mixL nr r k))).set i T.any)[i]? = some T.any := List.getElem?_set_self (by rw [List.length_map, List.length_set]; omega)
          have hc4 : ((List.map intsO ((mixL (q14z g s t 1 x.s1) x.s1 i).set i (mixL nz z k))).set i T.any)[i]? = some T.any := List.getElem?_set_self (by rw [List.length_map, List.length_set]; omega)
          simp -implicitDefEqProofs only [go_sem, evR, ints, rows, rat, rats, nodes, q0qa, intsO, hy, decide_eq_true (show (k : Int) < (C.length : Int) by omega), opR, Nat.reduceBEq]
          refine ⟨_, Weak.trans (Weak.open 1000000000 3 501 rfl rfl rfl (by decide) rfl) (Weak.trans (Weak.open 501 1 502 rfl rfl rfl (by decide) rfl) (Weak.open 502 i 503 rfl hc1 rfl (by decide) rfl)), ?_⟩
          simp -implicitDefEqProofs only [go_sem, evR, ints, rows, rat, rats, q0qa, intsO, hg1, hc1, hc3, hl1, hLR, hv, List.length_set, opR, Nat.reduceBEq]
          repeat (first | refine ⟨by omega, ?_⟩ | refine ⟨by rw [q0l0]; omega, ?_⟩)
          refine ⟨_, Weak.trans (Weak.close1 502 i 503 rfl rfl (by decide) hc3) (Weak.trans (Weak.close1 501 1 502 rfl rfl (by decide) rfl) (Weak.trans (Weak.close1 1000000000 3 501 rfl rfl (by decide) rfl) (Weak.trans (Weak.open 1000000000 4 504 rfl rfl rfl (by decide) rfl) (Weak.trans (Weak.open 504 1 505 rfl rfl rfl (by decide) rfl) (Weak.open 505 i 506 rfl hc2 rfl (by decide) rfl))))), ?_⟩
          simp -implicitDefEqProofs only [go_sem, evR, ints, rows, rat, rats, q0qa, intsO, hg2, hc2, hc4, hl2, hLZ, hv, hqs, hy, List.length_set, opR, Nat.reduceBEq]
          repeat (first | refine ⟨by omega, ?_⟩ | refine ⟨by rw [q0l0]; omega, ?_⟩)
          have wA : IntKind.i64.wrap (60 * v) = 60 * v := wrap64 (by omega) (by omega)
          have wB : IntKind.i64.wrap (x0 + 60 * v) = x0 + 60 * v := wrap64 (by omega) (by omega)
          have wC : IntKind.i64.wrap (x0 + 60 * v - M) = x0 + (60 * v - M) := by rw [wrap64 (by omega) (by omega)]; omega
          have wD : IntKind.i64.wrap (w * y) = w * y := wrap64 (by omega) (by omega)
          have wE : IntKind.i64.wrap (x1 + w * y) = x1 + w * y := wrap64 (by omega) (by omega)
          refine ⟨_, Weak.trans (Weak.close1 505 i 506 rfl rfl (by decide) hc4) (Weak.trans (Weak.close1 504 1 505 rfl rfl (by decide) rfl) (Weak.close1 1000000000 4 504 rfl rfl (by decide) rfl)), ?_⟩
          simp -implicitDefEqProofs only [go_sem, evR, ints, rows, rat, rats, q0qa, intsO, opR, Nat.reduceBEq]
          refine hn4 _ (k + 1) (Weak.of _ _ [some 1000000000, some 105, some 98] (by simp) (by simp) ?_ ?_) (by omega) (by omega)
          · simp -implicitDefEqProofs only [ints, rows, Nat.reduceBEq, wkR, Nat.reduceEqDiff, ↓reduceIte, wrR, nodes, q0lb h8 (show C.length <= 1000000000000 by omega)]
          · refine ⟨⟨_, rfl, ?_⟩, rfl, ⟨_, rfl, .refl _⟩, rfl, ⟨_, rfl, .refl _⟩, rfl, trivial⟩
            rw [← q14v hnl hnr1, ← q14v hnz' hnz1]
            simp only [q0qa, intsO, List.map_set, List.set_set, wA, wB, wC, wD, wE, nodes, rows]
            exact .refl _
        · have m1 : mixL nr r k = nr := by rw [show k = r.length by omega]; exact q14s hnl
          have m2 : mixL nz z k = nz := by rw [show k = z.length by omega]; exact q14s hnz'
          rw [m1, m2, hmR, hmZ]
          simp -implicitDefEqProofs only [go_sem, evR, ints, rows, rat, rats, nodes, q0qa, intsO, decide_eq_false (show ¬ (k : Int) < (C.length : Int) by omega), opR, Nat.reduceBEq]
          refine he4 _ _ ?_
          simp -implicitDefEqProofs only [go_sem, evR, ints, rows, rat, rats]
          refine hn2 _ (i + 1) (Weak.of _ _ [some 1000000000, some 105] (by simp) (by simp) ?_ ?_) (by omega) (by omega)
          · simp -implicitDefEqProofs only [ints, rows, Nat.reduceBEq, wkR, Nat.reduceEqDiff, ↓reduceIte, wrR, nodes, q0lb h9 (by omega)]
          · exact ⟨⟨_, rfl, .refl _⟩, rfl, ⟨_, rfl, .refl _⟩, rfl, trivial⟩
      · have hil : i = (sets g 1).length := by omega
        have m1 : mixL (q14y g s t 1 x.r1) x.r1 i = q14y g s t 1 x.r1 := by rw [hil, ← lR]; exact q14s (by omega)
        have m2 : mixL (q14z g s t 1 x.s1) x.s1 i = q14z g s t 1 x.s1 := by rw [hil, ← lZ]; exact q14s (by omega)
        rw [m1, m2]
        simp -implicitDefEqProofs only [go_sem, evR, ints, rows, rat, rats, nodes, q0qa, decide_eq_false (show ¬ (i : Int) < ((sets g 1).length : Int) by omega)]
        refine he2 _ _ ?_
        simp -implicitDefEqProofs only [go_sem, evR, ints, rows, rat, rats]
        refine hn _ 2 (Weak.of _ _ [some 1000000000] (by simp) (by simp) ?_ ?_) (by omega) (by omega)
        · simp -implicitDefEqProofs only [ints, rows, Nat.reduceBEq, wkR, Nat.reduceEqDiff, ↓reduceIte, wrR, nodes, w2']
        · exact ⟨⟨_, rfl, .refl _⟩, rfl, trivial⟩
    | 2, _ =>
      simp -implicitDefEqProofs only [go_sem, evR, ints, rows, rat, rats, ssS, nodes, q0qa, decide_eq_false (show ¬ (2 : Int) < 2 by omega), Int.natCast_zero, Int.cast_ofNat_Int]
      refine he _ _ ?_
      simp -implicitDefEqProofs only [go_sem, evR, ints, rows, rat, rats, ssS, nodes, q0qa, opR, Nat.reduceBEq]
end
section
attribute [-go_sem] q0i5 q0id fldC lenC idxC q0ip q0lp
theorem q0ss (g : Gm) (pl n : Int) (hg : q0cf g) : Pure Try.prog 107 [.agg [.sh 5 (chunk q0lu g.nd), .sh 1 (g.w.map ints), .sh 1 (g.v.map ints)], .i pl, .i n] (.i (q15a g pl n)) := by
  refine q0c6 (by simp) ?_
  simp -implicitDefEqProofs only [go_sem, evR, ints, rows, rat, rats, q058]
  refine q006.pure (q0fq (q0s2 g hg)) [] rfl Try.call139 ?_ (by first | trivial | simp [T.noSh, T.noShL, rat]) rfl ?_
  · simp -implicitDefEqProofs only [agR, Nat.reduceLeDiff, Nat.reduceSub, vaR, go_sem, ints, rows, rat, rats, q0p1, rtR, intsO, q0qa]
  simp -implicitDefEqProofs only [go_sem, evR, ints, rows, rat, rats]
  rcases Bool.eq_false_or_eq_true (q0fl g) with hgb | hgb
  · rw [hgb]
    refine ⟨fun h => by simp at h, fun _ => ?_⟩
    have hq1 := q0s4 n 0 30
    have hq2 := q0s4 pl 0 1
    by_cases hn : 0 <= n /\ n <= 30
    · rw [decide_eq_true hn] at hq1
      refine q006.pure hq1 [] rfl Try.call148 ?_ (by first | trivial | simp [T.noSh, T.noShL, rat]) rfl ?_
      · simp -implicitDefEqProofs only [agR, Nat.reduceLeDiff, Nat.reduceSub, vaR, go_sem, ints, rows, rat, rats, q0p1, rtR, intsO, q0qa]
      simp -implicitDefEqProofs only [go_sem, evR, ints, rows, rat, rats]
      by_cases hp : 0 <= pl /\ pl <= 1
      · rw [decide_eq_true hp] at hq2
        refine q006.pure hq2 [] rfl Try.call148 ?_ (by first | trivial | simp [T.noSh, T.noShL, rat]) rfl ?_
        · simp -implicitDefEqProofs only [agR, Nat.reduceLeDiff, Nat.reduceSub, vaR, go_sem, ints, rows, rat, rats, q0p1, rtR, intsO, q0qa]
        simp -implicitDefEqProofs only [go_sem, evR, ints, rows, rat, rats]
        rw [q15d.2 ⟨hgb, hn, hp⟩]
      · rw [decide_eq_false hp] at hq2
        refine q006.pure hq2 [] rfl Try.call148 ?_ (by first | trivial | simp [T.noSh, T.noShL, rat]) rfl ?_
        · simp -implicitDefEqProofs only [agR, Nat.reduceLeDiff, Nat.reduceSub, vaR, go_sem, ints, rows, rat, rats, q0p1, rtR, intsO, q0qa]
        simp -implicitDefEqProofs only [go_sem, evR, ints, rows, rat, rats]
        rw [q15c hgb (fun h => hp h.2)]
    · rw [decide_eq_false hn] at hq1
      refine q006.pure hq1 [] rfl Try.call148 ?_ (by first | trivial | simp [T.noSh, T.noShL, rat]) rfl ?_
      · simp -implicitDefEqProofs only [agR, Nat.reduceLeDiff, Nat.reduceSub, vaR, go_sem, ints, rows, rat, rats, q0p1, rtR, intsO, q0qa]
      simp -implicitDefEqProofs only [go_sem, evR, ints, rows, rat, rats]
      rw [q15c hgb (fun h => hn h.1)]
  · rw [hgb, q15b hgb]
    exact ⟨fun _ => rfl, fun h => by simp at h⟩
theorem q183 (g : Gm) (hg : q0fl g = true) (N : Nat) (hN : N <= 900) : Fun Try.prog 108 [] [.t (.agg [.sh 5 (chunk q0lu g.nd), .sh 1 (g.w.map ints), .sh 1 (g.v.map ints)]), .t (.i N)] fun o r => o = [] /\ r = ssB g (q15i g N) := by
  refine q17b (by simp) ?_
  simp -implicitDefEqProofs only [go_sem, evR, ints, rows, rat, rats, q16t]
  have hp := q0sx g hg
  simp only [ssB, nodes, rows, q0qa] at hp
  refine q006.res hp [] rfl Try.call168 ?_ (.inl rfl) ?_
  · simp -implicitDefEqProofs only [agR, Nat.reduceLeDiff, Nat.reduceSub, vaR, go_sem, ints, rows, rat, rats, q0p1, rtR, intsO, q0qa]
  simp -implicitDefEqProofs only [clR, Nat.reduceLeDiff, go_sem, evR, rat]
  refine SemC.loopR (σ := Nat) (fun k => St.of [(1, .t (.i ((N : Int) - k))), (5, .own 107)] [(107, ssB g (q15i g k))]) (fun k => k <= N) (fun k => N - k) 0 (Weak.of _ _ [some 7] (by simp) (by simp) ?_ ?_) (by omega) fun k hk R hn hr he => ?_
  · simp -implicitDefEqProofs only [ints, rows, Nat.reduceBEq, wkR, Nat.reduceEqDiff, ↓reduceIte, wrR, Int.natCast_zero, Int.cast_ofNat_Int, Int.sub_zero]
  · exact ⟨⟨_, rfl, .refl _⟩, rfl, trivial⟩
  rcases Nat.lt_or_ge k N with h9 | h9
  · have hst := q0sz g hg (q15i g k) (n := k) (by omega) (q15j hg k (by omega))
    rw [show q15q g (q15i g k) = q15i g (k + 1) from rfl] at hst
    simp -implicitDefEqProofs only [go_sem, evR, ints, rows, rat, rats, decide_eq_true (show (N : Int) - k > 0 by omega)]
    refine q006.ref hst [107] [] rfl Try.call169 (by simp) ?_ (by simp) ?_ (.inl rfl) ?_
    · simp -implicitDefEqProofs only [srR, Nat.reduceEqDiff, ↓reduceIte, ints, rows, intsO, q0qa]
    · simp -implicitDefEqProofs only [agR, Nat.reduceLeDiff, Nat.reduceSub, vaR, go_sem, ints, rows, rat, rats, q0p1, rtR, intsO, q0qa]
    simp -implicitDefEqProofs only [clR, Nat.reduceLeDiff, go_sem, evR, rat]
    refine hn _ (k + 1) (Weak.of _ _ [some 107] (by simp) (by simp) ?_ ?_) (by omega) (by omega)
    · simp -implicitDefEqProofs only [ints, rows, Nat.reduceBEq, wkR, Nat.reduceEqDiff, ↓reduceIte, wrR, show (N : Int) - k - 1 = (N : Int) - ((k + 1 : Nat) : Int) by omega, wrap64 (n := (N : Int) - ((k + 1 : Nat) : Int)) (by omega) (by omega)]
    · exact ⟨⟨_, rfl, .refl _⟩, rfl, trivial⟩
  · simp -implicitDefEqProofs only [go_sem, evR, ints, rows, rat, rats, decide_eq_false (show ¬ (N : Int) - k > 0 by omega)]
    refine he _ _ ?_
    simp -implicitDefEqProofs only [go_sem, evR, ints, rows, rat, rats, ssB, nodes, q0qa]
    rw [show k = N by omega]
theorem q17h (g : Gm) (n : Int) (hgl : q0cf g) (hg : q0fl g = false) : Fun Try.prog 109 [] [.t (.agg [.sh 5 (chunk q0lu g.nd), .sh 1 (g.w.map ints), .sh 1 (g.v.map ints)]), .t (.i n)] fun o r => o = [] /\ r = .tup [.v (.pointer none), .i 1] := by
  refine q172 (by simp) ?_
  simp -implicitDefEqProofs only [go_sem, evR, ints, rows, rat, rats, q16k]
  have hq := q0fq (q0ee g hgl)
  rw [hg] at hq
  refine q006.pure hq [] rfl Try.call115 ?_ (by first | trivial | simp [T.noSh, T.noShL, rat]) rfl ?_
  · simp -implicitDefEqProofs only [agR, Nat.reduceLeDiff, Nat.reduceSub, vaR, go_sem, ints, rows, rat, rats, q0p1, rtR, intsO, q0qa]
  simp -implicitDefEqProofs only [go_sem, evR, ints, rows, rat, rats]
theorem q17j (g : Gm) (n : Int) (hgl : q0cf g) (hg : q0fl g = true) (hn : ¬ (0 <= n /\ n <= 30)) : Fun Try.prog 109 [] [.t (.agg [.sh 5 (chunk q0lu g.nd), .sh 1 (g.w.map ints), .sh 1 (g.v.map ints)]), .t (.i n)] fun o r => o = [] /\ r = .tup [.v (.pointer none), .i 2] := by
  refine q172 (by simp) ?_
  simp -implicitDefEqProofs only [go_sem, evR, ints, rows, rat, rats, q16k]
  have hq := q0fq (q0ee g hgl)
  rw [hg] at hq
  refine q006.pure hq [] rfl Try.call115 ?_ (by first | trivial | simp [T.noSh, T.noShL, rat]) rfl ?_
  · simp -implicitDefEqProofs only [agR, Nat.reduceLeDiff, Nat.reduceSub, vaR, go_sem, ints, rows, rat, rats, q0p1, rtR, intsO, q0qa]
  simp -implicitDefEqProofs only [go_sem, evR, ints, rows, rat, rats]
  have hq := q0f9 n 0 30
  rw [decide_eq_false hn] at hq
  refine q006.pure hq [] rfl Try.call110 ?_ (by first | trivial | simp [T.noSh, T.noShL, rat]) rfl ?_
  · simp -implicitDefEqProofs only [agR, Nat.reduceLeDiff, Nat.reduceSub, vaR, go_sem, ints, rows, rat, rats, q0p1, rtR, intsO, q0qa]
  simp -implicitDefEqProofs only [go_sem, evR, ints, rows, rat, rats]
theorem q17i (g : Gm) (n : Int) (hgl : q0cf g) (hg : q0fl g = true) (hn : 0 <= n /\ n <= 30) : Fun Try.prog 109 [] [.t (.agg [.sh 5 (chunk q0lu g.nd), .sh 1 (g.w.map ints), .sh 1 (g.v.map ints)]), .t (.i n)] fun o r => o = [] /\ r = .tup [rsB g (runI g n), .i 0] := by
  refine q172 (by simp) ?_
  simp -implicitDefEqProofs only [go_sem, evR, ints, rows, rat, rats, q16k]
  have hq := q0fq (q0ee g hgl)
  rw [hg] at hq
  refine q006.pure hq [] rfl Try.call115 ?_ (by first | trivial | simp [T.noSh, T.noShL, rat]) rfl ?_
  · simp -implicitDefEqProofs only [agR, Nat.reduceLeDiff, Nat.reduceSub, vaR, go_sem, ints, rows, rat, rats, q0p1, rtR, intsO, q0qa]
  simp -implicitDefEqProofs only [go_sem, evR, ints, rows, rat, rats]
  have hq := q0f9 n 0 30
  rw [decide_eq_true hn] at hq
  refine q006.pure hq [] rfl Try.call110 ?_ (by first | trivial | simp [T.noSh, T.noShL, rat]) rfl ?_
  · simp -implicitDefEqProofs only [agR, Nat.reduceLeDiff, Nat.reduceSub, vaR, go_sem, ints, rows, rat, rats, q0p1, rtR, intsO, q0qa]
  simp -implicitDefEqProofs only [go_sem, evR, ints, rows, rat, rats]
  have hp := q0er g hg
  simp only [rsB, nodes, rows, q0qa] at hp
  refine q006.res hp [] rfl Try.call170 ?_ (.inl rfl) ?_
  · simp -implicitDefEqProofs only [agR, Nat.reduceLeDiff, Nat.reduceSub, vaR, go_sem, ints, rows, rat, rats, q0p1, rtR, intsO, q0qa]
  simp -implicitDefEqProofs only [clR, Nat.reduceLeDiff, go_sem, evR, rat]
  obtain ⟨N, rfl⟩ : ∃ N : Nat, n = N := ⟨n.toNat, by omega⟩
  refine SemC.loopR (σ := Nat) (fun k => St.of [(6, .own 107), (15, .t (.i N)), (16, .t (.i k))] [(107, rsB g (q15i g k))]) (fun k => k <= N) (fun k => N - k) 0 (Weak.of _ _ [some 14] (by simp) (by simp) ?_ ?_) (by omega) fun k hk R hn1 hr he => ?_
  · simp -implicitDefEqProofs only [ints, rows, Nat.reduceBEq, wkR, Nat.reduceEqDiff, ↓reduceIte, wrR]
  · exact ⟨⟨_, rfl, .refl _⟩, rfl, trivial⟩
  rcases Nat.lt_or_ge k N with h9 | h9
  · have hst := q0ep g hg (q15i g k) (n := k) (by omega) (q15j hg k (by omega))
    rw [show q15q g (q15i g k) = q15i g (k + 1) from rfl] at hst
    simp -implicitDefEqProofs only [go_sem, evR, ints, rows, rat, rats, decide_eq_true (show (k : Int) < (N : Int) by omega)]
    refine q006.ref hst [107] [] rfl Try.call171 (by simp) ?_ (by simp) ?_ (.inl rfl) ?_
    · simp -implicitDefEqProofs only [srR, Nat.reduceEqDiff, ↓reduceIte, ints, rows, intsO, q0qa]
    · simp -implicitDefEqProofs only [agR, Nat.reduceLeDiff, Nat.reduceSub, vaR, go_sem, ints, rows, rat, rats, q0p1, rtR, intsO, q0qa]
    simp -implicitDefEqProofs only [clR, Nat.reduceLeDiff, go_sem, evR, rat]
    refine hn1 _ (k + 1) (Weak.of _ _ [some 107] (by simp) (by simp) ?_ ?_) (by omega) (by omega)
    · simp -implicitDefEqProofs only [ints, rows, Nat.reduceBEq, wkR, Nat.reduceEqDiff, ↓reduceIte, wrR, q0lb h9 (by omega)]
    · exact ⟨⟨_, rfl, .refl _⟩, rfl, trivial⟩
  · simp -implicitDefEqProofs only [go_sem, evR, ints, rows, rat, rats, decide_eq_false (show ¬ (k : Int) < (N : Int) by omega)]
    refine he _ _ ?_
    simp -implicitDefEqProofs only [go_sem, evR, ints, rows, rat, rats, rsB, nodes, q0qa, runI, show k = N by omega, Int.toNat_natCast]
end

def q16q : CC :=
 (.seq (.reg [.o (.box 2 (sl 0)),
 .o (.alloc 4 [.v (.int .i64 0), .v (.slice none 0 0)]),
 .o (.alloc 5 [.v (.int .i64 0), .v (.slice none 0 0)]),
 .o (.move 6 (ci 0))])
 ((.seq (.reg [.o (.loadN 9 3 (sl 2)),
 .o (.move 10 (sl 1)),
 .o (.call (some 11) (cf 107) [(sl 9), (ci 0), (sl 10)]),
 .o (.move 7 (sl 11))])
 ((.seq (.seq (.reg [.o (.move 12 (sl 7)),
 .o (.bin 13 .neq (sl 12) (ci 0))])
 ((.cond (sl 13) (.seq (.reg [.o (.build 14 [.v (.int .i64 0), .v (.slice none 0 0)] [(0, 1), (1, 1)] []),
 .o (.build 15 [.v (.int .i64 0), .v (.slice none 0 0)] [(0, 1), (1, 1)] []),
 .o (.move 16 (sl 7)),
 .o (.store 2 (sl 4) (sl 14)),
 .o (.store 2 (sl 5) (sl 15)),
 .o (.move 6 (sl 16))])
 (.ret))
 .skip)))
 ((.seq (.reg [.o (.loadN 17 3 (sl 2)),
 .o (.move 18 (sl 1)),
 .o (.call (some 19) (cf 108) [(sl 17), (sl 18)]),
 .o (.move 8 (sl 19))])
 ((.seq (.weak (.draw [26, 33] [(kR, .o (.move 20 (sl 8))),
 (kR, .o (.nilc 21 (sl 20))),
 (kR, .o (.fld 22 3 (sl 21))),
 (kR, .o (.load1 23 (sl 22))),
 (kR, .o (.idx 24 1 (sl 23) (ci 0))),
 (kR, .o (.load1 25 (sl 24))),
 (.c false [], .o (.call (some 26) (cf 111) [(ci 0), (sl 25)])),
 (.r false [26], .o (.move 27 (sl 8))),
 (.r false [26], .o (.nilc 28 (sl 27))),
 (.r false [26], .o (.fld 29 3 (sl 28))),
 (.r false [26], .o (.load1 30 (sl 29))),
 (.r false [26], .o (.idx 31 1 (sl 30) (ci 1))),
 (.r false [26], .o (.load1 32 (sl 31))),
 (.c false [], .o (.call (some 33) (cf 111) [(ci 1), (sl 32)])),
 (kH, .o (.store 2 (sl 4) (sl 26))),
 (kH, .o (.store 2 (sl 5) (sl 33))),
 (kR, .o (.move 6 (ci 0)))]))
 (.ret))))))))))
theorem q178 {rin : List T} {args : List A} {Q : List T -> T -> Prop} (ha : args.length <= 34) (h : cW Try.prog 34 q16q (retP Try.prog [.cell 4 47, .cell 5 47, .tmp 6] rin.length Q) (St.of (enum 0 args) (enum 1000000000 rin))) :
    Fun Try.prog 37 rin args Q :=
  Fun.of (H := ⟨[], [5]⟩) Try.func37 rfl rfl rfl (by kernel_rfl) ha (by decide) h

def q16p : CC :=
 (.seq (.reg [.o (.box 2 (sl 0)),
 .o (.alloc 4 [.v (.int .i64 0), .v (.slice none 0 0)]),
 .o (.alloc 5 [.v (.int .i64 0), .v (.slice none 0 0)]),
 .o (.move 6 (ci 0))])
 ((.seq (.reg [.o (.loadN 9 3 (sl 2)),
 .o (.move 10 (sl 1)),
 .o (.call (some 11) (cf 107) [(sl 9), (ci 0), (sl 10)]),
 .o (.move 7 (sl 11))])
 ((.seq (.seq (.reg [.o (.move 12 (sl 7)),
 .o (.bin 13 .neq (sl 12) (ci 0))])
 ((.cond (sl 13) (.seq (.reg [.o (.build 14 [.v (.int .i64 0), .v (.slice none 0 0)] [(0, 1), (1, 1)] []),
 .o (.build 15 [.v (.int .i64 0), .v (.slice none 0 0)] [(0, 1), (1, 1)] []),
 .o (.move 16 (sl 7)),
 .o (.store 2 (sl 4) (sl 14)),
 .o (.store 2 (sl 5) (sl 15)),
 .o (.move 6 (sl 16))])
 (.ret))
 .skip)))
 ((.seq (.reg [.o (.loadN 17 3 (sl 2)),
 .o (.move 18 (sl 1)),
 .o (.call (some 19) (cf 108) [(sl 17), (sl 18)]),
 .o (.move 8 (sl 19))])
 ((.seq (.weak (.draw [26, 33] [(kR, .o (.move 20 (sl 8))),
 (kR, .o (.nilc 21 (sl 20))),
 (kR, .o (.fld 22 4 (sl 21))),
 (kR, .o (.load1 23 (sl 22))),
 (kR, .o (.idx 24 1 (sl 23) (ci 0))),
 (kR, .o (.load1 25 (sl 24))),
 (.c false [], .o (.call (some 26) (cf 111) [(ci 0), (sl 25)])),
 (.r false [26], .o (.move 27 (sl 8))),
 (.r false [26], .o (.nilc 28 (sl 27))),
 (.r false [26], .o (.fld 29 4 (sl 28))),
 (.r false [26], .o (.load1 30 (sl 29))),
 (.r false [26], .o (.idx 31 1 (sl 30) (ci 1))),
 (.r false [26], .o (.load1 32 (sl 31))),
 (.c false [], .o (.call (some 33) (cf 111) [(ci 1), (sl 32)])),
 (kH, .o (.store 2 (sl 4) (sl 26))),
 (kH, .o (.store 2 (sl 5) (sl 33))),
 (kR, .o (.move 6 (ci 0)))]))
 (.ret))))))))))
theorem q177 {rin : List T} {args : List A} {Q : List T -> T -> Prop} (ha : args.length <= 34) (h : cW Try.prog 34 q16p (retP Try.prog [.cell 4 47, .cell 5 47, .tmp 6] rin.length Q) (St.of (enum 0 args) (enum 1000000000 rin))) :
    Fun Try.prog 42 rin args Q :=
  Fun.of (H := ⟨[], [5]⟩) Try.func42 rfl rfl rfl (by kernel_rfl) ha (by decide) h

theorem q16u {g : Gm} {n : Int} (h : q15a g 0 n ≠ 0) : curR g n = ((0, []), (0, []), q15a g 0 n) := by rw [curR, if_neg h]; rfl
theorem q16c {g : Gm} {n : Int} (h : q15a g 0 n ≠ 0) : avgR g n = ((0, []), (0, []), q15a g 0 n) := by rw [avgR, if_neg h]; rfl
theorem q16v {g : Gm} {n : Int} (h : q15a g 0 n = 0) : curR g n = ((0, stM (runI g n).r0), (1, stM (runI g n).r1), 0) := by rw [curR, if_pos h]
theorem q16d {g : Gm} {n : Int} (h : q15a g 0 n = 0) : avgR g n = ((0, stM (runI g n).s0), (1, stM (runI g n).s1), 0) := by rw [avgR, if_pos h]
theorem stLe {f : FuncId} {args : List A} {R : (Int × List (List Int)) × (Int × List (List Int)) × Int} (h : Fun Try.prog f [] args fun o r => o = [] /\ (r = ritO R ∨ ∃ c, R = ((0, []), (0, []), c) /\ r = .tup [.agg [.i 0, .v (.slice none 0 0)], .agg [.i 0, .v (.slice none 0 0)], .i c])) : Fun Try.prog f [] args fun o r => o = [] /\ r = ritO R := by
  refine Fun.le h ?_
  rintro o r ⟨rfl, rfl | ⟨c, e, rfl⟩⟩
  · exact ⟨_, .refl _, rfl, rfl⟩
  · refine ⟨ritO R, ?_, rfl, rfl⟩
    rw [e]
    exact .tup3 q185 q185 (.refl _)
section
attribute [-go_sem] q0i5 q0id fldC lenC idxC q0ip q0lp
theorem q17d (g : Gm) (n : Int) (hg : q0cf g) : Fun Try.prog 38 [] [.t (q0ck g), .t (.i n)] fun o r => o = [] /\ r = ritO (curR g n) := by
  refine stLe ?_
  refine q16y (by simp) ?_
  simp -implicitDefEqProofs only [go_sem, evR, ints, rows, rat, rats, q16g, q0ck, nodes]
  rcases Bool.eq_false_or_eq_true (q0fl g) with hgb | hgb
  · by_cases hn : 0 <= n /\ n <= 30
    · have hp := q17i g n hg hgb hn
      simp only [rsB, nodes, rows, q0qa] at hp
      refine q006.res hp [] rfl Try.call109 ?_ (.inl rfl) ?_
      · simp -implicitDefEqProofs only [agR, Nat.reduceLeDiff, Nat.reduceSub, vaR, go_sem, ints, rows, rat, rats, q0p1, rtR, intsO, q0qa]
      simp -implicitDefEqProofs only [clR, Nat.reduceLeDiff, go_sem, evR, rat, show ((0 : Int) != 0) = false from rfl, opR, Nat.reduceBEq]
      rw [q16v (q15d.2 ⟨hgb, hn, by omega⟩)]
      have hk := q15j hgb n.toNat (by omega)
      have hq := q0ej g (runI g n) (q0m9 hgb (.inl rfl) hk.1) (q0m9 hgb (.inr rfl) hk.2.1) (by omega)
      refine q006.res hq [14] rfl Try.call112 ?_ (.inr (q07s _ _)) ?_
      · simp -implicitDefEqProofs only [agR, Nat.reduceLeDiff, Nat.reduceSub, vaR, go_sem, ints, rows, rat, rats, q0p1, rtR, intsO, q0qa, T.toShL.eq_1, T.toShL.eq_2, q0vg]
      simp -implicitDefEqProofs only [clR, Nat.reduceLeDiff, go_sem, evR, rat, opR, Nat.reduceBEq]
      refine ⟨_, Weak.trans (Weak.open 9 1 501 rfl rfl rfl (by decide) rfl) (Weak.open 10 1 502 rfl rfl rfl (by decide) rfl), ?_⟩
      simp -implicitDefEqProofs only [go_sem, evR, ints, rows, rat, rats, opR, Nat.reduceBEq, q05w, noLk, q0pd, q0p8]
      exact ⟨.inl rfl, ((q09v.refl _ _ _).upd _ (.inl (by simp))).upd _ (.inl (by simp))⟩
    · refine q006.res (q17j g n hg hgb hn) [] rfl Try.call109 ?_ (.inl rfl) ?_
      · simp -implicitDefEqProofs only [agR, Nat.reduceLeDiff, Nat.reduceSub, vaR, go_sem, ints, rows, rat, rats, q0p1, rtR, intsO, q0qa]
      simp -implicitDefEqProofs only [clR, Nat.reduceLeDiff, go_sem, evR, rat, show ((2 : Int) != 0) = true from rfl, opR, Nat.reduceBEq]
      have hc := q15c hgb (fun h => hn h.1 : ¬ ((0 <= n /\ n <= 30) /\ (0 <= (0 : Int) /\ (0 : Int) <= 1)))
      exact .inr ⟨2, by rw [q16u (by rw [hc]; decide), hc], rfl⟩
  · refine q006.res (q17h g n hg hgb) [] rfl Try.call109 ?_ (.inl rfl) ?_
    · simp -implicitDefEqProofs only [agR, Nat.reduceLeDiff, Nat.reduceSub, vaR, go_sem, ints, rows, rat, rats, q0p1, rtR, intsO, q0qa]
    simp -implicitDefEqProofs only [clR, Nat.reduceLeDiff, go_sem, evR, rat, show ((1 : Int) != 0) = true from rfl, opR, Nat.reduceBEq]
    have hc := q15b (pl := 0) (n := n) hgb
    exact .inr ⟨1, by rw [q16u (by rw [hc]; decide), hc], rfl⟩
theorem q17c (g : Gm) (n : Int) (hg : q0cf g) : Fun Try.prog 43 [] [.t (q0ck g), .t (.i n)] fun o r => o = [] /\ r = ritO (avgR g n) := by
  refine stLe ?_
  refine q16x (by simp) ?_
  simp -implicitDefEqProofs only [go_sem, evR, ints, rows, rat, rats, q16f, q0ck, nodes]
  rcases Bool.eq_false_or_eq_true (q0fl g) with hgb | hgb
  · by_cases hn : 0 <= n /\ n <= 30
    · have hp := q17i g n hg hgb hn
      simp only [rsB, nodes, rows, q0qa] at hp
      refine q006.res hp [] rfl Try.call109 ?_ (.inl rfl) ?_
      · simp -implicitDefEqProofs only [agR, Nat.reduceLeDiff, Nat.reduceSub, vaR, go_sem, ints, rows, rat, rats, q0p1, rtR, intsO, q0qa]
      simp -implicitDefEqProofs only [clR, Nat.reduceLeDiff, go_sem, evR, rat, show ((0 : Int) != 0) = false from rfl, opR, Nat.reduceBEq]
      rw [q16d (q15d.2 ⟨hgb, hn, by omega⟩)]
      have hk := q15j hgb n.toNat (by omega)
      have hq := q0eh g (runI g n) (q0m9 hgb (.inl rfl) hk.2.2.1) (q0m9 hgb (.inr rfl) hk.2.2.2) (by omega)
      refine q006.res hq [14] rfl Try.call113 ?_ (.inr (q07s _ _)) ?_
      · simp -implicitDefEqProofs only [agR, Nat.reduceLeDiff, Nat.reduceSub, vaR, go_sem, ints, rows, rat, rats, q0p1, rtR, intsO, q0qa, T.toShL.eq_1, T.toShL.eq_2, q0vg]
      simp -implicitDefEqProofs only [clR, Nat.reduceLeDiff, go_sem, evR, rat, opR, Nat.reduceBEq]
      refine ⟨_, Weak.trans (Weak.open 9 1 501 rfl rfl rfl (by decide) rfl) (Weak.open 10 1 502 rfl rfl rfl (by decide) rfl), ?_⟩
      simp -implicitDefEqProofs only [go_sem, evR, ints, rows, rat, rats, opR, Nat.reduceBEq, q05w, noLk, q0pd, q0p8]
      exact ⟨.inl rfl, ((q09v.refl _ _ _).upd _ (.inl (by simp))).upd _ (.inl (by simp))⟩
    · refine q006.res (q17j g n hg hgb hn) [] rfl Try.call109 ?_ (.inl rfl) ?_
      · simp -implicitDefEqProofs only [agR, Nat.reduceLeDiff, Nat.reduceSub, vaR, go_sem, ints, rows, rat, rats, q0p1, rtR, intsO, q0qa]
      simp -implicitDefEqProofs only [clR, Nat.reduceLeDiff, go_sem, evR, rat, show ((2 : Int) != 0) = true from rfl, opR, Nat.reduceBEq]
      have hc := q15c hgb (fun h => hn h.1 : ¬ ((0 <= n /\ n <= 30) /\ (0 <= (0 : Int) /\ (0 : Int) <= 1)))
      exact .inr ⟨2, by rw [q16c (by rw [hc]; decide), hc], rfl⟩
  · refine q006.res (q17h g n hg hgb) [] rfl Try.call109 ?_ (.inl rfl) ?_
    · simp -implicitDefEqProofs only [agR, Nat.reduceLeDiff, Nat.reduceSub, vaR, go_sem, ints, rows, rat, rats, q0p1, rtR, intsO, q0qa]
    simp -implicitDefEqProofs only [clR, Nat.reduceLeDiff, go_sem, evR, rat, show ((1 : Int) != 0) = true from rfl, opR, Nat.reduceBEq]
    have hc := q15b (pl := 0) (n := n) hgb
    exact .inr ⟨1, by rw [q16c (by rw [hc]; decide), hc], rfl⟩
theorem q180 (g : Gm) (n : Int) (hg : q0cf g) : Fun Try.prog 37 [] [.t (q0ck g), .t (.i n)] fun o r => o = [] /\ r = ritO (curR g n) := by
  refine stLe ?_
  refine q178 (by simp) ?_
  simp -implicitDefEqProofs only [go_sem, evR, ints, rows, rat, rats, q16q, q0ck, nodes]
  refine q006.pure (q0ss g 0 n hg) [] rfl Try.call107 ?_ (by first | trivial | simp [T.noSh, T.noShL, rat]) rfl ?_
  · simp -implicitDefEqProofs only [agR, Nat.reduceLeDiff, Nat.reduceSub, vaR, go_sem, ints, rows, rat, rats, q0p1, rtR, intsO, q0qa]
  simp -implicitDefEqProofs only [go_sem, evR, ints, rows, rat, rats, opR, Nat.reduceBEq]
  by_cases hc : q15a g 0 n = 0
  · obtain ⟨hgb, hn, hpl⟩ := q15d.1 hc
    rw [hc]
    refine ⟨fun h => by simp at h, fun _ => ?_⟩
    have hp := q183 g hgb n.toNat (by omega)
    rw [show ((n.toNat : Nat) : Int) = n by omega] at hp
    simp only [ssB, nodes, rows, q0qa] at hp
    refine q006.res hp [] rfl Try.call108 ?_ (.inl rfl) ?_
    · simp -implicitDefEqProofs only [agR, Nat.reduceLeDiff, Nat.reduceSub, vaR, go_sem, ints, rows, rat, rats, q0p1, rtR, intsO, q0qa]
    simp -implicitDefEqProofs only [clR, Nat.reduceLeDiff, go_sem, evR, rat, opR, Nat.reduceBEq]
    rw [q16v hc]
    have hk := q15j hgb n.toNat (by omega)
    refine ⟨_, Weak.trans (Weak.share 19 rfl) (Weak.of [(4, .own 4), (5, .own 5), (8, .t (.pin [.sh 5 (chunk q0lu g.nd), .sh 1 (g.w.map ints), .sh 1 (g.v.map ints), .sh 1 [rows (q15i g n.toNat).r0, rows (q15i g n.toNat).r1], .sh 1 [rows (q15i g n.toNat).s0, rows (q15i g n.toNat).s1]] 0))] [(4, .box [.i 0, .v (.slice none 0 0)]), (5, .box [.i 0, .v (.slice none 0 0)])] [some 4, some 5] (by simp) (by simp) ?_ ?_), ?_⟩
    · simp -implicitDefEqProofs only [ints, rows, Nat.reduceBEq, wkR, Nat.reduceEqDiff, ↓reduceIte, wrR, q0rg, T.toSh, T.toShL, q0vg]
    · exact ⟨⟨_, rfl, .refl _⟩, rfl, ⟨_, rfl, .refl _⟩, rfl, trivial⟩
    simp -implicitDefEqProofs only [go_sem, evR, ints, rows, rat, rats, List.length_cons, List.length_nil, opR, Nat.reduceBEq]
    repeat (first | refine ⟨by omega, ?_⟩ | refine ⟨by rw [q0l0]; omega, ?_⟩)
    refine q000.res (q0t0 0 (q15i g n.toNat).r0 (q0m9 hgb (.inl rfl) hk.1) (by omega)) [] rfl Try.call111 (fun e R' hR => ?_) (.inl rfl) ?_
    · simp -implicitDefEqProofs only [agR, Nat.reduceLeDiff, Nat.reduceSub, vaR, go_sem, ints, rows, rat, rats, q0p1, rtR, intsO, q0qa]
    simp -implicitDefEqProofs only [clR, Nat.reduceLeDiff, go_sem, evR, rat, List.length_cons, List.length_nil, opR, Nat.reduceBEq]
    repeat (first | refine ⟨by omega, ?_⟩ | refine ⟨by rw [q0l0]; omega, ?_⟩)
    refine q000.res (q0t0 1 (q15i g n.toNat).r1 (q0m9 hgb (.inr rfl) hk.2.1) (by omega)) [] rfl Try.call111 (fun e R' hR => ?_) (.inl rfl) ?_
    · simp -implicitDefEqProofs only [agR, Nat.reduceLeDiff, Nat.reduceSub, vaR, go_sem, ints, rows, rat, rats, q0p1, rtR, intsO, q0qa]
    simp -implicitDefEqProofs only [clR, Nat.reduceLeDiff, go_sem, evR, rat, opR, Nat.reduceBEq]
    exact .inl rfl
  · refine ⟨fun _ => .inr ⟨q15a g 0 n, q16u hc, rfl⟩, fun h => absurd (by simpa using h) hc⟩
theorem q17z (g : Gm) (n : Int) (hg : q0cf g) : Fun Try.prog 42 [] [.t (q0ck g), .t (.i n)] fun o r => o = [] /\ r = ritO (avgR g n) := by
  refine stLe ?_
  refine q177 (by simp) ?_
  simp -implicitDefEqProofs only [go_sem, evR, ints, rows, rat, rats, q16p, q0ck, nodes]
  refine q006.pure (q0ss g 0 n hg) [] rfl Try.call107 ?_ (by first | trivial | simp [T.noSh, T.noShL, rat]) rfl ?_
  · simp -implicitDefEqProofs only [agR, Nat.reduceLeDiff, Nat.reduceSub, vaR, go_sem, ints, rows, rat, rats, q0p1, rtR, intsO, q0qa]
  simp -implicitDefEqProofs only [go_sem, evR, ints, rows, rat, rats, opR, Nat.reduceBEq]
  by_cases hc : q15a g 0 n = 0
  · obtain ⟨hgb, hn, hpl⟩ := q15d.1 hc
    rw [hc]
    refine ⟨fun h => by simp at h, fun _ => ?_⟩
    have hp := q183 g hgb n.toNat (by omega)
    rw [show ((n.toNat : Nat) : Int) = n by omega] at hp
    simp only [ssB, nodes, rows, q0qa] at hp
    refine q006.res hp [] rfl Try.call108 ?_ (.inl rfl) ?_
    · simp -implicitDefEqProofs only [agR, Nat.reduceLeDiff, Nat.reduceSub, vaR, go_sem, ints, rows, rat, rats, q0p1, rtR, intsO, q0qa]
    simp -implicitDefEqProofs only [clR, Nat.reduceLeDiff, go_sem, evR, rat, opR, Nat.reduceBEq]
    rw [q16d hc]
    have hk := q15j hgb n.toNat (by omega)
    refine ⟨_, Weak.trans (Weak.share 19 rfl) (Weak.of [(4, .own 4), (5, .own 5), (8, .t (.pin [.sh 5 (chunk q0lu g.nd), .sh 1 (g.w.map ints), .sh 1 (g.v.map ints), .sh 1 [rows (q15i g n.toNat).r0, rows (q15i g n.toNat).r1], .sh 1 [rows (q15i g n.toNat).s0, rows (q15i g n.toNat).s1]] 0))] [(4, .box [.i 0, .v (.slice none 0 0)]), (5, .box [.i 0, .v (.slice none 0 0)])] [some 4, some 5] (by simp) (by simp) ?_ ?_), ?_⟩
    · simp -implicitDefEqProofs only [ints, rows, Nat.reduceBEq, wkR, Nat.reduceEqDiff, ↓reduceIte, wrR, q0rg, T.toSh, T.toShL, q0vg]
    · exact ⟨⟨_, rfl, .refl _⟩, rfl, ⟨_, rfl, .refl _⟩, rfl, trivial⟩
    simp -implicitDefEqProofs only [go_sem, evR, ints, rows, rat, rats, List.length_cons, List.length_nil, opR, Nat.reduceBEq]
    repeat (first | refine ⟨by omega, ?_⟩ | refine ⟨by rw [q0l0]; omega, ?_⟩)
    refine q000.res (q0t0 0 (q15i g n.toNat).s0 (q0m9 hgb (.inl rfl) hk.2.2.1) (by omega)) [] rfl Try.call111 (fun e R' hR => ?_) (.inl rfl) ?_
    · simp -implicitDefEqProofs only [agR, Nat.reduceLeDiff, Nat.reduceSub, vaR, go_sem, ints, rows, rat, rats, q0p1, rtR, intsO, q0qa]
    simp -implicitDefEqProofs only [clR, Nat.reduceLeDiff, go_sem, evR, rat, List.length_cons, List.length_nil, opR, Nat.reduceBEq]
    repeat (first | refine ⟨by omega, ?_⟩ | refine ⟨by rw [q0l0]; omega, ?_⟩)
    refine q000.res (q0t0 1 (q15i g n.toNat).s1 (q0m9 hgb (.inr rfl) hk.2.2.2) (by omega)) [] rfl Try.call111 (fun e R' hR => ?_) (.inl rfl) ?_
    · simp -implicitDefEqProofs only [agR, Nat.reduceLeDiff, Nat.reduceSub, vaR, go_sem, ints, rows, rat, rats, q0p1, rtR, intsO, q0qa]
    simp -implicitDefEqProofs only [clR, Nat.reduceLeDiff, go_sem, evR, rat, opR, Nat.reduceBEq]
    exact .inl rfl
  · refine ⟨fun _ => .inr ⟨q15a g 0 n, q16c hc, rfl⟩, fun h => absurd (by simpa using h) hc⟩
end

def q0yt : CC :=
 (.seq (.reg [.o (.alloc 2 [.v (.slice none 0 0), .v (.slice none 0 0), .v (.slice none 0 0)]),
 .o (.move 3 (ci 0))])
 ((.seq (.reg [.o (.move 5 (sl 0)),
 .o (.call (some 6) (cf 190) [(sl 5)]),
 .o (.alloc 4 [.v (.slice none 0 0), .v (.slice none 0 0), .v (.slice none 0 0)]),
 .o (.store 3 (sl 4) (sl 6))])
 ((.seq (.weak (.draw [11] [(kE, .o (.loadN 7 3 (sl 4))),
 (kE, .o (.move 8 (sl 0))),
 (kR, .o (.move 9 (sl 0))),
 (kH, .o (.call (some 10) (cf 126) [(sl 9), (ci 6)])),
 (kN, .o (.bslice 11 1 10 [(0, (ci 0)), (1, (ci 1)), (2, (ci 2)), (3, (ci 3)), (4, (ci 4)), (5, (ci 2)), (6, (ci 3)), (7, (sl 10)), (8, (ci 31)), (9, (ci (-1)))])),
 (kH, .o (.call (some 12) (cf 147) [(sl 8), (sl 11)])),
 (kH, .o (.store 3 (sl 2) (sl 7))),
 (kR, .o (.move 3 (sl 12)))]))
 (.ret))))))
theorem q0zy {rin : List T} {args : List A} {Q : List T -> T -> Prop} (ha : args.length <= 13) (h : cW Try.prog 13 q0yt (retP Try.prog [.cell 2 35, .tmp 3] rin.length Q) (St.of (enum 0 args) (enum 1000000000 rin))) :
    Fun Try.prog 150 rin args Q :=
  Fun.of (H := ⟨[], [2]⟩) Try.func150 rfl rfl rfl (by kernel_rfl) ha (by decide) h

theorem q10g (cs : List Int) : Pure Try.prog 51 [bytes cs] (.b (decide ((cs.length : Int) > 4096))) := by
  refine q0zf (by simp) ?_
  simp -implicitDefEqProofs only [go_sem, evR, ints, rows, rat, rats, q0ya, bytes]
theorem q10h (a b : List Int) (ha : a.length <= 1000000000000) (hb : b.length <= 1000000000000) : Pure Try.prog 94 [ints a, ints b] (.b (decide (a = b))) := by
  refine q0zg (by simp) ?_
  simp -implicitDefEqProofs only [q0yb, ints, go_sem]
  refine ⟨fun h => ?_, fun h => ?_⟩
  · have : a ≠ b := by rintro rfl; simp at h
    simp [this]
  · have hab : a.length = b.length := by simp at h; omega
    refine SemC.loopR (σ := Nat) (fun i => St.of [(0, .t (ints a)), (1, .t (ints b)), (5, .t (.i i))] []) (fun i => i <= a.length /\ ∀ j, j < i -> a[j]? = b[j]?) (fun i => a.length - i) 0 (Weak.of _ [] [] (by simp) (by simp) ?_ trivial) ⟨by simp, fun j hj => by omega⟩ fun i hI R hn hr he => ?_
    · simp -implicitDefEqProofs only [ints, wkR, Nat.reduceEqDiff, ↓reduceIte]
    · simp -implicitDefEqProofs only [ints, go_sem, q0ve]
      refine ⟨fun h => ⟨by omega, by omega, by omega, fun c x hx hc => ⟨by omega, by omega, by omega, fun c' y hy hc' => ?_⟩⟩, fun h => he _ _ ?_⟩
      · subst hc hc'
        simp -implicitDefEqProofs only [go_sem]
        refine ⟨fun h1 => hr _ ?_, fun h1 => hn _ (i + 1) (Weak.of _ [] [] (by simp) (by simp) ?_ trivial) ⟨by omega, fun j hj => ?_⟩ (by omega)⟩
        · simp -implicitDefEqProofs only [go_sem]
          have : a ≠ b := by rintro rfl; rw [hx] at hy; cases hy; simp at h1
          simp [this]
        · simp -implicitDefEqProofs only [ints, wkR, Nat.reduceEqDiff, ↓reduceIte, q0lb (by omega : i < a.length) ha]
        · rcases Nat.lt_or_ge j i with h | h
          · exact hI.2 j h
          · have : j = i := by omega
            subst this
            rw [hx, hy]; simpa using h1
      · simp -implicitDefEqProofs only [go_sem]
        have : a = b := by
          refine List.ext_getElem? fun j => ?_
          rcases Nat.lt_or_ge j i with h | h
          · exact hI.2 j h
          · rw [List.getElem?_eq_none (by omega), List.getElem?_eq_none (by omega)]
        simp [this]
theorem q17o (a b : List (List Int)) (ha : a.length <= 1000000000000) (hb : b.length <= 1000000000000) (hra : ∀ r ∈ a, r.length <= 1000000000000) (hrb : ∀ r ∈ b, r.length <= 1000000000000) :
    Pure Try.prog 84 [rows a, rows b] (.b (decide (a = b))) := by
  refine q175 (by simp) ?_
  simp -implicitDefEqProofs only [q16n, rows, go_sem]
  refine ⟨fun h => ?_, fun h => ?_⟩
  · have : a ≠ b := by rintro rfl; simp at h
    simp [this]
  · have hab : a.length = b.length := by simp at h; omega
    refine SemC.loopR (σ := Nat) (fun i => St.of [(0, .t (rows a)), (1, .t (rows b)), (5, .t (.i i))] []) (fun i => i <= a.length /\ ∀ j, j < i -> a[j]? = b[j]?) (fun i => a.length - i) 0 (Weak.of _ [] [] (by simp) (by simp) ?_ trivial) ⟨by simp, fun j hj => by omega⟩ fun i hI R hn hr he => ?_
    · simp -implicitDefEqProofs only [rows, wkR, Nat.reduceEqDiff, ↓reduceIte]
    · simp -implicitDefEqProofs only [rows, go_sem, q0ve]
      refine ⟨fun h => ⟨by omega, by omega, by omega, fun c x hx hc => ⟨by omega, by omega, by omega, fun c' y hy hc' => ?_⟩⟩, fun h => he _ _ ?_⟩
      · subst hc hc'
        refine q004.pure (q10h x y (hra x (List.mem_of_getElem? hx)) (hrb y (List.mem_of_getElem? hy))) [] rfl Try.call94 (fun e R' _ => ?_) trivial (fun _ => rfl) ?_
        · simp -implicitDefEqProofs only [vaR, go_sem]
        · simp -implicitDefEqProofs only [go_sem]
          refine ⟨fun h1 => hr _ ?_, fun h1 => hn _ (i + 1) (Weak.of _ [] [] (by simp) (by simp) ?_ trivial) ⟨by omega, fun j hj => ?_⟩ (by omega)⟩
          · simp -implicitDefEqProofs only [go_sem]
            have : a ≠ b := by rintro rfl; rw [hx] at hy; cases hy; simp at h1
            simp [this]
          · simp -implicitDefEqProofs only [rows, wkR, Nat.reduceEqDiff, ↓reduceIte, q0lb (by omega : i < a.length) ha]
          · rcases Nat.lt_or_ge j i with h | h
            · exact hI.2 j h
            · have : j = i := by omega
              subst this
              rw [hx, hy]; simpa using h1
      · simp -implicitDefEqProofs only [go_sem]
        have : a = b := by
          refine List.ext_getElem? fun j => ?_
          rcases Nat.lt_or_ge j i with h | h
          · exact hI.2 j h
          · rw [List.getElem?_eq_none (by omega), List.getElem?_eq_none (by omega)]
        simp [this]
section
attribute [-go_sem] q0i5 q0id fldC lenC idxC q0ip q0lp
theorem q17p (s : Int × List (List Int)) (hs : q0q5 s.2) : Pure Try.prog 65 [.agg [.i s.1, .sh 1 (s.2.map ints)], .agg [.i s.1, .sh 1 (s.2.map ints)]] (.b true) := by
  refine q176 (by simp) ?_
  simp -implicitDefEqProofs only [go_sem, evR, ints, rows, rat, rats, q16o, show (s.1 == s.1) = true by simp]
  have hq := q17o s.2 s.2 hs.1 hs.1 hs.2 hs.2
  simp only [rows, decide_true] at hq
  refine q006.pure hq [] rfl Try.call84 ?_ (by first | trivial | simp [T.noSh, T.noShL, rat]) rfl ?_
  · simp -implicitDefEqProofs only [agR, Nat.reduceLeDiff, Nat.reduceSub, vaR, go_sem, ints, rows, rat, rats, q0p1, rtR, intsO, q0qa]
  simp -implicitDefEqProofs only [go_sem, evR, ints, rows, rat, rats]
end
section
attribute [-go_sem] q0i5 q0id fldC lenC idxC q0ip q0lp
theorem q17k (g : Gm) (hg : q0fl g = true) (pl : Int) (hpl : pl = 0 ∨ pl = 1) : Fun Try.prog 137 [] [.t (.agg [.sh 5 (chunk q0lu g.nd), .sh 1 (g.w.map ints), .sh 1 (g.v.map ints)]), .t (.i pl)] fun o r => o = [] /\ r = .agg [.i pl, .arr 1 ((uniL g pl).map intsO)] := by
  obtain ⟨p1, p2, p3, p4, p5⟩ := q0fn hg
  obtain ⟨t1, t2, t3, t4⟩ := q0g0 p1
  have hsl := q0re g pl t1.2 p2.2
  refine q173 (by simp) ?_
  simp -implicitDefEqProofs only [go_sem, evR, ints, rows, rat, rats, q16l, opR, Nat.reduceBEq]
  have hp := q0fd g pl t1.2 p2.2
  simp only [q0qa] at hp
  refine q006.res hp [] rfl Try.call152 ?_ (.inl rfl) ?_
  · simp -implicitDefEqProofs only [agR, Nat.reduceLeDiff, Nat.reduceSub, vaR, go_sem, ints, rows, rat, rats, q0p1, rtR, intsO, q0qa]
  simp -implicitDefEqProofs only [clR, Nat.reduceLeDiff, go_sem, evR, rat]
  refine SemC.loopR (σ := Nat) (fun i => St.of [(2, .own 2), (4, .own 4), (5, .own 5), (12, .t (rows (sets g pl))), (13, .t (.i (sets g pl).length)), (14, .t (.i i))] [(2, .box [nodes g.nd, rows g.w, rows g.v]), (4, .box [.i 0, .v (.slice none 0 0)]), (5, .box [.i pl, q0qa ((uniL g pl).take i)])]) (fun i => i <= (sets g pl).length) (fun i => (sets g pl).length - i) 0 (Weak.trans (Weak.share 12 rfl) (Weak.of _ _ [some 2, some 4, some 5] (by simp) (by simp) ?_ ?_)) (by simp) fun i hi R hn hr he => ?_
  · simp -implicitDefEqProofs only [ints, rows, Nat.reduceBEq, wkR, Nat.reduceEqDiff, ↓reduceIte, wrR, q0rg, T.toSh, q0vg, nodes]
  · exact ⟨⟨_, rfl, .refl _⟩, rfl, ⟨_, rfl, .refl _⟩, rfl, ⟨_, rfl, .box rfl fun j h1 h2 => (match j, h1 with | 0, _ => .refl _ | 1, _ => .nilArr _)⟩, rfl, trivial⟩
  rcases Nat.lt_or_ge i (sets g pl).length with h9 | h9
  · obtain ⟨b1, b2⟩ := q0ri hg hpl h9
    obtain ⟨a1, a2, a3, a4, a5, a6⟩ := q15l h9
    obtain ⟨x, hx⟩ : ∃ x, g.nd[setN g pl i]? = some x := ⟨_, List.getElem?_eq_getElem a2⟩
    have hxd : g.nd.getD (setN g pl i) nd0 = x := by rw [List.getD_eq_getElem?_getD, hx]; rfl
    rw [hxd] at a5
    have hlt : ((uniL g pl).take i).length = i := by rw [List.length_take, q188]; omega
    simp -implicitDefEqProofs only [go_sem, evR, ints, rows, rat, rats, a1, decide_eq_true (show (i : Int) < ((sets g pl).length : Int) by omega)]
    repeat (first | refine ⟨by omega, ?_⟩ | refine ⟨by rw [q0l0]; omega, ?_⟩)
    refine ⟨_, Weak.open 5 1 501 rfl rfl rfl (by decide) rfl, ?_⟩
    simp -implicitDefEqProofs only [go_sem, evR, ints, rows, rat, rats, nodes, q0qa, q0kz hx, ← a5, q0jc, List.getElem?_cons_zero, List.getElem?_cons_succ]
    repeat (first | refine ⟨by omega, ?_⟩ | refine ⟨by rw [q0l0]; omega, ?_⟩)
    rw [show List.replicate (q0rh g pl i) (T.v (.int .i64 0)) = (List.replicate (q0rh g pl i) 0).map T.i by rw [List.map_replicate]]
    have hq := q0ev _ (q18b b1 b2)
    simp only [ints, intsO] at hq
    refine q000.res hq [30] rfl Try.call193 (fun e R' hR => ?_) (.inr (q0fh _)) ?_
    · have hq30 := (hR 30).resolve_left (by simp -implicitDefEqProofs only [go_sem, evR, ints, rows, rat, rats, not_false_eq_true])
      simp -implicitDefEqProofs only [go_sem, evR, ints, rows, rat, rats] at hq30
      simp -implicitDefEqProofs only [agR, Nat.reduceLeDiff, Nat.reduceSub, vaR, go_sem, ints, rows, rat, rats, q0p1, rtR, intsO, q0qa, hq30]
    simp -implicitDefEqProofs only [clR, Nat.reduceLeDiff, go_sem, evR, rat, opR, Nat.reduceBEq]
    refine ⟨⟨by omega, hn _ (i + 1) (Weak.of _ _ [some 2, some 4, some 5] (by simp) (by simp) ?_ ?_) (by omega) (by omega)⟩, ((q09v.refl _ _ _).upd _ (.inl (by simp))).upd _ (.inr rfl)⟩
    · simp -implicitDefEqProofs only [ints, rows, Nat.reduceBEq, wkR, Nat.reduceEqDiff, ↓reduceIte, wrR, nodes, q0lb h9 (by omega)]
    · refine ⟨⟨_, rfl, .refl _⟩, rfl, ⟨_, rfl, .refl _⟩, rfl, ⟨_, rfl, ?_⟩, rfl, trivial⟩
      rw [q18a h9, q0qa, List.map_append]; exact .refl _
  · simp -implicitDefEqProofs only [go_sem, evR, ints, rows, rat, rats, decide_eq_false (show ¬ (i : Int) < ((sets g pl).length : Int) by omega), opR, Nat.reduceBEq]
    refine he _ _ ?_
    simp -implicitDefEqProofs only [go_sem, evR, ints, rows, rat, rats, q0qa, opR, Nat.reduceBEq]
    rw [List.take_of_length_le (by rw [q188]; exact h9)]
theorem q17f (g : Gm) (hgl : q0cf g) (hg : q0fl g = true) (pl : Int) (hpl : pl = 0 ∨ pl = 1) : Fun Try.prog 67 [] [.t (.agg [.sh 5 (chunk q0lu g.nd), .sh 1 (g.w.map ints), .sh 1 (g.v.map ints)]), .t (.i pl)] fun o r => o = [] /\ r = .tup [.agg [.i pl, .arr 1 ((uniL g pl).map intsO)], .i 0] := by
  refine q170 (by simp) ?_
  simp -implicitDefEqProofs only [go_sem, evR, ints, rows, rat, rats, q16i, opR, Nat.reduceBEq]
  have hq := q0fq (q0ee g hgl)
  rw [hg] at hq
  refine q006.pure hq [] rfl Try.call115 ?_ (by first | trivial | simp [T.noSh, T.noShL, rat]) rfl ?_
  · simp -implicitDefEqProofs only [agR, Nat.reduceLeDiff, Nat.reduceSub, vaR, go_sem, ints, rows, rat, rats, q0p1, rtR, intsO, q0qa]
  simp -implicitDefEqProofs only [go_sem, evR, ints, rows, rat, rats]
  have hq := q0f9 pl 0 1
  rw [decide_eq_true (show 0 <= pl /\ pl <= 1 by omega)] at hq
  refine q006.pure hq [] rfl Try.call110 ?_ (by first | trivial | simp [T.noSh, T.noShL, rat]) rfl ?_
  · simp -implicitDefEqProofs only [agR, Nat.reduceLeDiff, Nat.reduceSub, vaR, go_sem, ints, rows, rat, rats, q0p1, rtR, intsO, q0qa]
  simp -implicitDefEqProofs only [go_sem, evR, ints, rows, rat, rats, opR, Nat.reduceBEq]
  refine q006.res (q17k g hg pl hpl) [] rfl Try.call137 ?_ (.inl rfl) ?_
  · simp -implicitDefEqProofs only [agR, Nat.reduceLeDiff, Nat.reduceSub, vaR, go_sem, ints, rows, rat, rats, q0p1, rtR, intsO, q0qa]
  simp -implicitDefEqProofs only [clR, Nat.reduceLeDiff, go_sem, evR, rat, opR, Nat.reduceBEq]
end
section
attribute [-go_sem] q0i5 q0id fldC lenC idxC q0ip q0lp
def drNT (x : Gm × Int) : T := .tup [.agg [.sh 5 (chunk q0lu x.1.nd), .sh 1 (x.1.w.map ints), .sh 1 (x.1.v.map ints)], .i x.2]
theorem q12c (cs : List Int) (hc : q161 cs) (hl : cs.length <= 100000000000) (a : Nat × Int) (ha : q0qx a) : Fun Try.prog 150 [.box [bytes cs, .i a.1, .i a.2]] [.own 1000000000] fun o r => ∃ x : (Gm × Int) × (Nat × Int), o = [.box [bytes cs, .i x.2.1, .i x.2.2]] /\ r = drNT x.1 /\ (q11q x.1.1 /\ q0qx x.2) := by
  refine q0zy (by simp) ?_
  simp -implicitDefEqProofs only [go_sem, evR, ints, rows, rat, rats, q0yt]
  have hp := q128 cs hc hl a ha
  simp only [q0z3] at hp
  refine q006.exi hp [1000000000] [] rfl Try.call190 (by simp) ?_ (by simp) ?_ (.inl rfl) (fun x hx => ?_)
  · simp -implicitDefEqProofs only [srR, Nat.reduceEqDiff, ↓reduceIte, ints, rows, intsO, q0qa]
  · simp -implicitDefEqProofs only [agR, Nat.reduceLeDiff, Nat.reduceSub, vaR, go_sem, ints, rows, rat, rats, q0p1, rtR, intsO, q0qa]
  obtain ⟨⟨g, bb⟩, d⟩ := x
  obtain ⟨hx1, hx2⟩ := hx
  simp only [] at hx1 hx2 ⊢
  apply q12i
  rotate_left
  · intro tail
    cases bb
    · simp only [Bool.false_eq_true, if_false, rows, nodes]
      simp -implicitDefEqProofs only [clR, Nat.reduceLeDiff, go_sem, evR, rat, opR, Nat.reduceBEq]
      refine ⟨St.of [(0, .own 1000000000), (2, .own 2), (4, .t (.pin [nodes g.nd, rows g.w, rows g.v] 0))] [(1000000000, .box [bytes cs, .i d.1, .i d.2]), (2, .box [.v (.slice none 0 0), .v (.slice none 0 0), .v (.slice none 0 0)])], Weak.trans (Weak.share 4 rfl) (Weak.of _ _ [some 1000000000, some 2] (by simp) (by simp) ?_ ?_), tail⟩
      · simp -implicitDefEqProofs only [ints, rows, Nat.reduceBEq, wkR, Nat.reduceEqDiff, ↓reduceIte, wrR, q0rg, T.toSh, T.toShL, nodes, q12h]
      · exact ⟨⟨_, rfl, .refl _⟩, rfl, ⟨_, rfl, .refl _⟩, rfl, trivial⟩
    · simp only [if_true, rows, nodes]
      simp -implicitDefEqProofs only [clR, Nat.reduceLeDiff, go_sem, evR, rat, opR, Nat.reduceBEq]
      refine ⟨St.of [(0, .own 1000000000), (2, .own 2), (4, .t (.pin [nodes g.nd, rows g.w, rows g.v] 0))] [(1000000000, .box [bytes cs, .i d.1, .i d.2]), (2, .box [.v (.slice none 0 0), .v (.slice none 0 0), .v (.slice none 0 0)])], Weak.trans (Weak.share 4 rfl) (Weak.of _ _ [some 1000000000, some 2] (by simp) (by simp) ?_ ?_), tail⟩
      · simp -implicitDefEqProofs only [ints, rows, Nat.reduceBEq, wkR, Nat.reduceEqDiff, ↓reduceIte, wrR, q0rg, T.toSh, T.toShL, nodes, q12h]
      · exact ⟨⟨_, rfl, .refl _⟩, rfl, ⟨_, rfl, .refl _⟩, rfl, trivial⟩
  · simp -implicitDefEqProofs only [go_sem, evR, ints, rows, rat, rats, nodes]
    refine q002.ref (q10p cs hc hl d hx2 6 (by omega)) [1000000000] [] rfl Try.call126 (by simp) ?_ (by simp) (fun e R' hR => ?_) (.inl rfl) ?_
    · simp -implicitDefEqProofs only [srR, Nat.reduceEqDiff, ↓reduceIte, ints, rows, intsO, q0qa]
    · simp -implicitDefEqProofs only [agR, Nat.reduceLeDiff, Nat.reduceSub, vaR, go_sem, ints, rows, rat, rats, q0p1, rtR, intsO, q0qa]
    simp -implicitDefEqProofs only [clR, Nat.reduceLeDiff, go_sem, evR, rat]
    have hs1 := q10o (cs := cs) hl hx2 6
    generalize q10m cs d 6 = z at hs1 ⊢
    obtain ⟨k, f⟩ := z
    simp only [] at hs1 ⊢
    have hp := q117 cs hc hl f hs1 [0, 1, 2, 3, 4, 2, 3, k, 31, -1] (by simp) (by simp)
    have hs2 := q116 (cs := cs) hl hs1 [0, 1, 2, 3, 4, 2, 3, k, 31, -1]
    generalize q115 cs f [0, 1, 2, 3, 4, 2, 3, k, 31, -1] = z at hs2 hp ⊢
    obtain ⟨y, f2⟩ := z
    simp only [intsO, List.map_cons, List.map_nil] at hp hs2
    refine q002.ref hp [1000000000, 11] [] rfl Try.call147 (by simp) ?_ (by simp) (fun e R' hR => ?_) (.inl rfl) ?_
    · simp -implicitDefEqProofs only [srR, Nat.reduceEqDiff, ↓reduceIte, ints, rows, intsO, q0qa]
    · simp -implicitDefEqProofs only [agR, Nat.reduceLeDiff, Nat.reduceSub, vaR, go_sem, ints, rows, rat, rats, q0p1, rtR, intsO, q0qa]
    simp -implicitDefEqProofs only [clR, Nat.reduceLeDiff, go_sem, evR, rat]
    exact ⟨((g, y), f2), rfl, rfl, hx1, hs2⟩
theorem q181 (cs : List Int) (hc : q161 cs) (hl : cs.length <= 100000000000) : Fun Try.prog 89 [] [.t (bytes cs)] fun o r => ∃ x : Gm × Int, o = [] /\ r = drNT x /\ q11q x.1 := by
  refine q179 (by simp) ?_
  simp -implicitDefEqProofs only [go_sem, evR, ints, rows, rat, rats, q16r]
  refine q006.res (q11z cs hc (by omega)) [] rfl Try.call119 ?_ (.inl rfl) ?_
  · simp -implicitDefEqProofs only [agR, Nat.reduceLeDiff, Nat.reduceSub, vaR, go_sem, ints, rows, rat, rats, q0p1, rtR, intsO, q0qa]
  simp -implicitDefEqProofs only [clR, Nat.reduceLeDiff, go_sem, evR, rat, srcT]
  have hs0 := q11l (cs.take 64)
  generalize q0za (cs.take 64) = sd at hs0 ⊢
  have hp := q12c cs hc hl (0, sd) hs0
  simp only [drNT] at hp
  refine q006.exi hp [5] [] rfl Try.call150 (by simp) ?_ (by simp) ?_ (.inl rfl) (fun x hx => ?_)
  · simp -implicitDefEqProofs only [srR, Nat.reduceEqDiff, ↓reduceIte, ints, rows, intsO, q0qa]
  · simp -implicitDefEqProofs only [agR, Nat.reduceLeDiff, Nat.reduceSub, vaR, go_sem, ints, rows, rat, rats, q0p1, rtR, intsO, q0qa]
  simp -implicitDefEqProofs only [clR, Nat.reduceLeDiff, go_sem, evR, rat, opR, Nat.reduceBEq]
  exact ⟨x.1, rfl, hx.1⟩
theorem q182 (cs : List Int) (hc : q161 cs) (hl : cs.length <= 100000000000) : Fun Try.prog 90 [] [.t (bytes cs)] fun o r => ∃ x : Gm × Int, o = [] /\ r = drNT x /\ q11q x.1 := by
  refine q17a (by simp) ?_
  simp -implicitDefEqProofs only [go_sem, evR, ints, rows, rat, rats, q16s]
  refine q006.res (q11z cs hc (by omega)) [] rfl Try.call119 ?_ (.inl rfl) ?_
  · simp -implicitDefEqProofs only [agR, Nat.reduceLeDiff, Nat.reduceSub, vaR, go_sem, ints, rows, rat, rats, q0p1, rtR, intsO, q0qa]
  simp -implicitDefEqProofs only [clR, Nat.reduceLeDiff, go_sem, evR, rat, srcT]
  have hs0 := q11l (cs.take 64)
  generalize q0za (cs.take 64) = sd at hs0 ⊢
  have hp := q12c cs hc hl (0, sd) hs0
  simp only [drNT] at hp
  refine q006.exi hp [5] [] rfl Try.call150 (by simp) ?_ (by simp) ?_ (.inl rfl) (fun x hx => ?_)
  · simp -implicitDefEqProofs only [srR, Nat.reduceEqDiff, ↓reduceIte, ints, rows, intsO, q0qa]
  · simp -implicitDefEqProofs only [agR, Nat.reduceLeDiff, Nat.reduceSub, vaR, go_sem, ints, rows, rat, rats, q0p1, rtR, intsO, q0qa]
  simp -implicitDefEqProofs only [clR, Nat.reduceLeDiff, go_sem, evR, rat, opR, Nat.reduceBEq]
  exact ⟨x.1, rfl, hx.1⟩
end
section
attribute [-go_sem] q0i5 q0id fldC lenC idxC q0ip q0lp
theorem q103 {α : Type} {p : α -> Prop} (k0 : α) (h : ∀ k, k0 = k -> p k) : p k0 := h k0 rfl
end
theorem q17y {m : List (List Int)} (h : q17x m) : q0q5 m := ⟨by have := h.1; omega, fun r hr => by have := h.2 r hr; omega⟩
theorem q17w (g : Gm) : (runI g 0).s0 = q15z g 0 /\ (runI g 0).s1 = q15z g 1 := ⟨rfl, rfl⟩
section
attribute [-go_sem] q0i5 q0id fldC lenC idxC q0ip q0lp
theorem q17n (cs : List Int) (hc : q161 cs) : Pure Try.prog 18 [bytes cs] (.b true) := by
  refine q174 (by simp) ?_
  simp -implicitDefEqProofs only [go_sem, evR, ints, rows, rat, rats, q16m]
  refine q006.pure (q10g cs) [] rfl Try.call51 ?_ (by first | trivial | simp [T.noSh, T.noShL, rat]) rfl ?_
  · simp -implicitDefEqProofs only [agR, Nat.reduceLeDiff, Nat.reduceSub, vaR, go_sem, ints, rows, rat, rats, q0p1, rtR, intsO, q0qa]
  simp -implicitDefEqProofs only [go_sem, evR, ints, rows, rat, rats]
  refine ⟨fun _ => trivial, fun hbig => ?_⟩
  have hl : cs.length <= 4096 := by have : (cs.length : Int) <= 4096 := by simpa using hbig
                                    omega
  have hp := q181 cs hc (by omega)
  simp only [drNT] at hp
  refine q006.exi hp [] [] rfl Try.call89 (by simp) ?_ (by simp) ?_ (.inl rfl) (fun x hx => ?_)
  · simp -implicitDefEqProofs only [srR, Nat.reduceEqDiff, ↓reduceIte, ints, rows, intsO, q0qa]
  · simp -implicitDefEqProofs only [agR, Nat.reduceLeDiff, Nat.reduceSub, vaR, go_sem, ints, rows, rat, rats, q0p1, rtR, intsO, q0qa]
  refine q103 (p := fun k => q00p _ _ _ _ _ (opsW _ _ _ k)) _ (fun kc hkc => ?_)
  simp -implicitDefEqProofs only [clR, Nat.reduceLeDiff, go_sem, evR, rat, opR, Nat.reduceBEq, nodes, rows]
  rw [← hkc]
  clear hkc
  simp -implicitDefEqProofs only [go_sem, evR, ints, rows, rat, rats, opR, Nat.reduceBEq, nodes]
  obtain ⟨g, n⟩ := x
  (try simp only [] at hx)
  (try simp only [])
  have hg := q11r hx
  have hr := q16e g n
  have hq := q17c g n hg
  simp only [q0ck, nodes, rows, ritO, q0qa] at hq
  generalize hA : avgR g n = w at hr hq
  obtain ⟨p, q, code⟩ := w
  (try simp only [] at hr hq)
  refine q006.res hq [] rfl Try.call43 ?_ (.inl rfl) ?_
  · simp -implicitDefEqProofs only [agR, Nat.reduceLeDiff, Nat.reduceSub, vaR, go_sem, ints, rows, rat, rats, q0p1, rtR, intsO, q0qa]
  refine q103 (p := fun k => q00p _ _ _ _ _ (opsW _ _ _ k)) _ (fun kc hkc => ?_)
  simp -implicitDefEqProofs only [clR, Nat.reduceLeDiff, go_sem, evR, rat, opR, Nat.reduceBEq]
  rw [← hkc]
  clear hkc
  simp -implicitDefEqProofs only [go_sem, evR, ints, rows, rat, rats, opR, Nat.reduceBEq]
  have hq := q17z g n hg
  rw [hA] at hq
  simp only [q0ck, nodes, rows, ritO, q0qa] at hq
  refine q006.res hq [] rfl Try.call42 ?_ (.inl rfl) ?_
  · simp -implicitDefEqProofs only [agR, Nat.reduceLeDiff, Nat.reduceSub, vaR, go_sem, ints, rows, rat, rats, q0p1, rtR, intsO, q0qa]
  refine q103 (p := fun k => q00p _ _ _ _ _ (opsW _ _ _ k)) _ (fun kc hkc => ?_)
  simp -implicitDefEqProofs only [clR, Nat.reduceLeDiff, go_sem, evR, rat, opR, Nat.reduceBEq]
  rw [← hkc]
  clear hkc
  simp -implicitDefEqProofs only [go_sem, evR, ints, rows, rat, rats, opR, Nat.reduceBEq]
  refine q006.weak (Weak.trans (Weak.share 3 rfl) (Weak.trans (Weak.share 5 rfl) (Weak.trans (Weak.share 6 rfl) (Weak.trans (Weak.share 8 rfl) (Weak.trans (Weak.share 9 rfl) (Weak.of [(0, .t (bytes cs)), (3, .t (.pin [.sh 5 (chunk q0lu g.nd), rows g.w, rows g.v] 0)), (5, .t (.pin [.i p.1, rows p.2] 0)), (6, .t (.pin [.i q.1, rows q.2] 0)), (7, .t (.i code)), (8, .t (.pin [.i p.1, rows p.2] 0)), (9, .t (.pin [.i q.1, rows q.2] 0)), (10, .t (.i code)), (48, .t (bytes cs))] [] [] (by simp) (by simp) ?_ ?_)))))) ?_
  · simp -implicitDefEqProofs only [ints, rows, Nat.reduceBEq, wkR, Nat.reduceEqDiff, ↓reduceIte, wrR, q0rg, T.toSh, T.toShL, nodes, q0vg]
  · exact trivial
  have hp := q182 cs hc (by omega)
  simp only [drNT] at hp
  refine q006.exi hp [] [] rfl Try.call90 (by simp) ?_ (by simp) ?_ (.inl rfl) (fun x hx2 => ?_)
  · simp -implicitDefEqProofs only [srR, Nat.reduceEqDiff, ↓reduceIte, ints, rows, intsO, q0qa]
  · simp -implicitDefEqProofs only [agR, Nat.reduceLeDiff, Nat.reduceSub, vaR, go_sem, ints, rows, rat, rats, q0p1, rtR, intsO, q0qa]
  refine q103 (p := fun k => q00p _ _ _ _ _ (opsW _ _ _ k)) _ (fun kc hkc => ?_)
  simp -implicitDefEqProofs only [clR, Nat.reduceLeDiff, go_sem, evR, rat, opR, Nat.reduceBEq, nodes, rows]
  rw [← hkc]
  clear hkc
  simp -implicitDefEqProofs only [go_sem, evR, ints, rows, rat, rats, opR, Nat.reduceBEq, nodes]
  obtain ⟨h, m⟩ := x
  (try simp only [] at hx2)
  (try simp only [])
  have hh := q11r hx2
  have hr2 := q16w h m
  have hq := q17d h m hh
  simp only [q0ck, nodes, rows, ritO, q0qa] at hq
  generalize hC : curR h m = w at hr2 hq
  obtain ⟨u, v, code2⟩ := w
  (try simp only [] at hr2 hq)
  refine q006.res hq [] rfl Try.call38 ?_ (.inl rfl) ?_
  · simp -implicitDefEqProofs only [agR, Nat.reduceLeDiff, Nat.reduceSub, vaR, go_sem, ints, rows, rat, rats, q0p1, rtR, intsO, q0qa]
  refine q103 (p := fun k => q00p _ _ _ _ _ (opsW _ _ _ k)) _ (fun kc hkc => ?_)
  simp -implicitDefEqProofs only [clR, Nat.reduceLeDiff, go_sem, evR, rat, opR, Nat.reduceBEq]
  rw [← hkc]
  clear hkc
  simp -implicitDefEqProofs only [go_sem, evR, ints, rows, rat, rats, opR, Nat.reduceBEq]
  have hq := q180 h m hh
  rw [hC] at hq
  simp only [q0ck, nodes, rows, ritO, q0qa] at hq
  refine q006.res hq [] rfl Try.call37 ?_ (.inl rfl) ?_
  · simp -implicitDefEqProofs only [agR, Nat.reduceLeDiff, Nat.reduceSub, vaR, go_sem, ints, rows, rat, rats, q0p1, rtR, intsO, q0qa]
  refine q103 (p := fun k => q00p _ _ _ _ _ (opsW _ _ _ k)) _ (fun kc hkc => ?_)
  simp -implicitDefEqProofs only [clR, Nat.reduceLeDiff, go_sem, evR, rat, opR, Nat.reduceBEq, nodes, rows, bne_self_eq_false]
  rw [← hkc]
  clear hkc
  simp -implicitDefEqProofs only [go_sem, evR, ints, rows, rat, rats, opR, Nat.reduceBEq, nodes, bne_self_eq_false]
  refine q006.weak (Weak.trans (Weak.share 11 rfl) (Weak.trans (Weak.share 13 rfl) (Weak.trans (Weak.share 14 rfl) (Weak.trans (Weak.share 16 rfl) (Weak.trans (Weak.share 17 rfl) (Weak.of [(3, .t (.pin [.sh 5 (chunk q0lu g.nd), rows g.w, rows g.v] 0)), (5, .t (.pin [.i p.1, rows p.2] 0)), (6, .t (.pin [.i q.1, rows q.2] 0)), (7, .t (.i code)), (8, .t (.pin [.i p.1, rows p.2] 0)), (9, .t (.pin [.i q.1, rows q.2] 0)), (10, .t (.i code)), (11, .t (.pin [.sh 5 (chunk q0lu h.nd), rows h.w, rows h.v] 0)), (13, .t (.pin [.i u.1, rows u.2] 0)), (14, .t (.pin [.i v.1, rows v.2] 0)), (15, .t (.i code2)), (16, .t (.pin [.i u.1, rows u.2] 0)), (17, .t (.pin [.i v.1, rows v.2] 0)), (18, .t (.i code2)), (69, .t (.v (.bool false))), (70, .t (.agg [.i p.1, rows p.2])), (71, .t (.agg [.i p.1, rows p.2]))] [] [] (by simp) (by simp) ?_ ?_)))))) ?_
  · simp -implicitDefEqProofs only [ints, rows, Nat.reduceBEq, wkR, Nat.reduceEqDiff, ↓reduceIte, wrR, q0rg, T.toSh, T.toShL, nodes, q0vg]
  · exact trivial
  refine q006.pure (q17p p (q0qd hr.1)) [] rfl Try.call65 ?_ (by first | trivial | simp [T.noSh, T.noShL, rat]) rfl ?_
  · simp -implicitDefEqProofs only [agR, Nat.reduceLeDiff, Nat.reduceSub, vaR, go_sem, ints, rows, rat, rats, q0p1, rtR, intsO, q0qa]
  simp -implicitDefEqProofs only [go_sem, evR, ints, rows, rat, rats, not_true_eq_false, decide_false, Bool.not_true, nodes]
  refine q006.pure (q17p q (q0qd hr.2)) [] rfl Try.call65 ?_ (by first | trivial | simp [T.noSh, T.noShL, rat]) rfl ?_
  · simp -implicitDefEqProofs only [agR, Nat.reduceLeDiff, Nat.reduceSub, vaR, go_sem, ints, rows, rat, rats, q0p1, rtR, intsO, q0qa]
  simp -implicitDefEqProofs only [go_sem, evR, ints, rows, rat, rats, not_true_eq_false, decide_false, Bool.not_true, bne_self_eq_false]
  refine q006.pure (q17p u (q0qd hr2.1)) [] rfl Try.call65 ?_ (by first | trivial | simp [T.noSh, T.noShL, rat]) rfl ?_
  · simp -implicitDefEqProofs only [agR, Nat.reduceLeDiff, Nat.reduceSub, vaR, go_sem, ints, rows, rat, rats, q0p1, rtR, intsO, q0qa]
  simp -implicitDefEqProofs only [go_sem, evR, ints, rows, rat, rats, not_true_eq_false, decide_false, Bool.not_true]
  refine q006.pure (q17p v (q0qd hr2.2)) [] rfl Try.call65 ?_ (by first | trivial | simp [T.noSh, T.noShL, rat]) rfl ?_
  · simp -implicitDefEqProofs only [agR, Nat.reduceLeDiff, Nat.reduceSub, vaR, go_sem, ints, rows, rat, rats, q0p1, rtR, intsO, q0qa]
  simp -implicitDefEqProofs only [go_sem, evR, ints, rows, rat, rats, not_true_eq_false, decide_false, Bool.not_true]
  have htail : True := trivial
  refine ⟨fun hz2 => ?_, fun _ => ?_⟩
  · have hz2 : code2 = 0 := by simpa using hz2
    have hcd2 : q15a h 0 m = 0 := Classical.byContradiction fun e => by
      rw [q16u e] at hC
      simp only [Prod.mk.injEq] at hC
      exact e (hC.2.2.trans hz2)
    obtain ⟨hgb2, hm, hpl2⟩ := q15d.1 hcd2
    obtain ⟨d1, d2, d3, d4⟩ := q0np (q15k hgb2 (show m.toNat <= 1000 by omega)).1
    have hul : q0q9 u.2 := ⟨Nat.le_trans (q0qd hr2.1).1 (by decide), fun r h => Nat.le_trans ((q0qd hr2.1).2 r h) (by decide)⟩
    have hvl : q0q9 v.2 := ⟨Nat.le_trans (q0qd hr2.2).1 (by decide), fun r h => Nat.le_trans ((q0qd hr2.2).2 r h) (by decide)⟩
    rw [q16v hcd2] at hC
    simp only [Prod.mk.injEq] at hC
    obtain ⟨rfl, rfl, hC⟩ := hC
    have hq := q17l (q17e h (0, stM (runI h m).r0) hh hul)
    rw [show strB h (0, stM (runI h m).r0) = true from d1] at hq
    refine q006.pure hq [] rfl Try.call91 ?_ (by first | trivial | simp [T.noSh, T.noShL, rat]) rfl ?_
    · simp -implicitDefEqProofs only [agR, Nat.reduceLeDiff, Nat.reduceSub, vaR, go_sem, ints, rows, rat, rats, q0p1, rtR, intsO, q0qa]
    simp -implicitDefEqProofs only [go_sem, evR, ints, rows, rat, rats]
    have hq := q17l (q17e h (1, stM (runI h m).r1) hh hvl)
    rw [show strB h (1, stM (runI h m).r1) = true from d2] at hq
    refine q006.pure hq [] rfl Try.call91 ?_ (by first | trivial | simp [T.noSh, T.noShL, rat]) rfl ?_
    · simp -implicitDefEqProofs only [agR, Nat.reduceLeDiff, Nat.reduceSub, vaR, go_sem, ints, rows, rat, rats, q0p1, rtR, intsO, q0qa]
    simp -implicitDefEqProofs only [go_sem, evR, ints, rows, rat, rats]
    refine ⟨fun _ => trivial, fun hz => ?_⟩
    have hz : code = 0 := by simpa using hz
    have hcd : q15a g 0 n = 0 := Classical.byContradiction fun e => by
      rw [q16c e] at hA
      simp only [Prod.mk.injEq] at hA
      exact e (hA.2.2.trans hz)
    obtain ⟨hgb, hn, hpl⟩ := q15d.1 hcd
    obtain ⟨b1, b2, b3, b4⟩ := q0np (q15k hgb (show n.toNat <= 1000 by omega)).2
    have hcd0 : q15a g 0 0 = 0 := q15d.2 ⟨hgb, by omega, by omega⟩
    have e0 : avgR g 0 = ((0, uniL g 0), (1, uniL g 1), 0) := by rw [q16d hcd0, (q17w g).1, (q17w g).2, q184, q184]
    have hq := q17c g 0 hg
    rw [e0] at hq
    simp only [q0ck, nodes, rows, ritO, q0qa] at hq
    refine q006.res hq [] rfl Try.call43 ?_ (.inl rfl) ?_
    · simp -implicitDefEqProofs only [agR, Nat.reduceLeDiff, Nat.reduceSub, vaR, go_sem, ints, rows, rat, rats, q0p1, rtR, intsO, q0qa]
    refine q103 (p := fun k => q00p _ _ _ _ _ (opsW _ _ _ k)) _ (fun kc hkc => ?_)
    simp -implicitDefEqProofs only [clR, Nat.reduceLeDiff, go_sem, evR, rat, opR, Nat.reduceBEq]
    rw [← hkc]
    clear hkc
    simp -implicitDefEqProofs only [go_sem, evR, ints, rows, rat, rats, opR, Nat.reduceBEq]
    have hq := q17f g hg hgb 0 (.inl rfl)
    refine q006.res hq [] rfl Try.call67 ?_ (.inl rfl) ?_
    · simp -implicitDefEqProofs only [agR, Nat.reduceLeDiff, Nat.reduceSub, vaR, go_sem, ints, rows, rat, rats, q0p1, rtR, intsO, q0qa]
    refine q103 (p := fun k => q00p _ _ _ _ _ (opsW _ _ _ k)) _ (fun kc hkc => ?_)
    simp -implicitDefEqProofs only [clR, Nat.reduceLeDiff, go_sem, evR, rat, opR, Nat.reduceBEq]
    rw [← hkc]
    clear hkc
    simp -implicitDefEqProofs only [go_sem, evR, ints, rows, rat, rats, opR, Nat.reduceBEq]
    refine q006.weak (Weak.trans (Weak.share 19 rfl) (Weak.trans (Weak.share 20 rfl) (Weak.trans (Weak.share 22 rfl) (Weak.of [(3, .t (.pin [.sh 5 (chunk q0lu g.nd), rows g.w, rows g.v] 0)), (5, .t (.pin [.i p.1, rows p.2] 0)), (6, .t (.pin [.i q.1, rows q.2] 0)), (19, .t (.pin [.i 0, rows (uniL g 0)] 0)), (20, .t (.pin [.i 1, rows (uniL g 1)] 0)), (21, .t (.i 0)), (22, .t (.pin [.i 0, rows (uniL g 0)] 0)), (23, .t (.i 0)), (126, .t (.agg [.sh 5 (chunk q0lu g.nd), rows g.w, rows g.v]))] [] [] (by simp) (by simp) ?_ ?_)))) ?_
    · simp -implicitDefEqProofs only [ints, rows, Nat.reduceBEq, wkR, Nat.reduceEqDiff, ↓reduceIte, wrR, q0rg, T.toSh, T.toShL, nodes, q0vg]
    · exact trivial
    have hq := q17f g hg hgb 1 (.inr rfl)
    refine q006.res hq [] rfl Try.call67 ?_ (.inl rfl) ?_
    · simp -implicitDefEqProofs only [agR, Nat.reduceLeDiff, Nat.reduceSub, vaR, go_sem, ints, rows, rat, rats, q0p1, rtR, intsO, q0qa]
    refine q103 (p := fun k => q00p _ _ _ _ _ (opsW _ _ _ k)) _ (fun kc hkc => ?_)
    simp -implicitDefEqProofs only [clR, Nat.reduceLeDiff, go_sem, evR, rat, opR, Nat.reduceBEq, beq_self_eq_true, nodes, rows]
    rw [← hkc]
    clear hkc
    simp -implicitDefEqProofs only [go_sem, evR, ints, rows, rat, rats, opR, Nat.reduceBEq, beq_self_eq_true, nodes]
    have h120 := q17y (q189 hgb (.inl rfl))
    have h121 := q17y (q189 hgb (.inr rfl))
    have hq := q17p (0, uniL g 0) h120
    simp only [] at hq
    refine q006.pure hq [] rfl Try.call65 ?_ (by first | trivial | simp [T.noSh, T.noShL, rat]) rfl ?_
    · simp -implicitDefEqProofs only [agR, Nat.reduceLeDiff, Nat.reduceSub, vaR, go_sem, ints, rows, rat, rats, q0p1, rtR, intsO, q0qa]
    simp -implicitDefEqProofs only [go_sem, evR, ints, rows, rat, rats, opR, Nat.reduceBEq]
    have hq := q17p (1, uniL g 1) h121
    simp only [] at hq
    refine q006.pure hq [148002] rfl Try.call65 ?_ (by first | trivial | simp [T.noSh, T.noShL, rat]) rfl ?_
    · simp -implicitDefEqProofs only [agR, Nat.reduceLeDiff, Nat.reduceSub, vaR, go_sem, ints, rows, rat, rats, q0p1, rtR, intsO, q0qa]
    simp -implicitDefEqProofs only [go_sem, evR, ints, rows, rat, rats, opR, Nat.reduceBEq]
    have hpl : q0q9 p.2 := ⟨Nat.le_trans (q0qd hr.1).1 (by decide), fun r h => Nat.le_trans ((q0qd hr.1).2 r h) (by decide)⟩
    have hql : q0q9 q.2 := ⟨Nat.le_trans (q0qd hr.2).1 (by decide), fun r h => Nat.le_trans ((q0qd hr.2).2 r h) (by decide)⟩
    rw [q16d hcd] at hA
    simp only [Prod.mk.injEq] at hA
    obtain ⟨rfl, rfl, hA⟩ := hA
    have hq := q17l (q17e g (0, stM (runI g n).s0) hg hpl)
    rw [show strB g (0, stM (runI g n).s0) = true from b1] at hq
    refine q006.pure hq [] rfl Try.call91 ?_ (by first | trivial | simp [T.noSh, T.noShL, rat]) rfl ?_
    · simp -implicitDefEqProofs only [agR, Nat.reduceLeDiff, Nat.reduceSub, vaR, go_sem, ints, rows, rat, rats, q0p1, rtR, intsO, q0qa]
    simp -implicitDefEqProofs only [go_sem, evR, ints, rows, rat, rats]
    have hq := q17l (q17e g (1, stM (runI g n).s1) hg hql)
    rw [show strB g (1, stM (runI g n).s1) = true from b2] at hq
    refine q006.pure hq [] rfl Try.call91 ?_ (by first | trivial | simp [T.noSh, T.noShL, rat]) rfl ?_
    · simp -implicitDefEqProofs only [agR, Nat.reduceLeDiff, Nat.reduceSub, vaR, go_sem, ints, rows, rat, rats, q0p1, rtR, intsO, q0qa]
    simp -implicitDefEqProofs only [go_sem, evR, ints, rows, rat, rats]
  · refine ⟨fun _ => trivial, fun hz => ?_⟩
    have hz : code = 0 := by simpa using hz
    have hcd : q15a g 0 n = 0 := Classical.byContradiction fun e => by
      rw [q16c e] at hA
      simp only [Prod.mk.injEq] at hA
      exact e (hA.2.2.trans hz)
    obtain ⟨hgb, hn, hpl⟩ := q15d.1 hcd
    obtain ⟨b1, b2, b3, b4⟩ := q0np (q15k hgb (show n.toNat <= 1000 by omega)).2
    have hcd0 : q15a g 0 0 = 0 := q15d.2 ⟨hgb, by omega, by omega⟩
    have e0 : avgR g 0 = ((0, uniL g 0), (1, uniL g 1), 0) := by rw [q16d hcd0, (q17w g).1, (q17w g).2, q184, q184]
    have hq := q17c g 0 hg
    rw [e0] at hq
    simp only [q0ck, nodes, rows, ritO, q0qa] at hq
    refine q006.res hq [] rfl Try.call43 ?_ (.inl rfl) ?_
    · simp -implicitDefEqProofs only [agR, Nat.reduceLeDiff, Nat.reduceSub, vaR, go_sem, ints, rows, rat, rats, q0p1, rtR, intsO, q0qa]
    refine q103 (p := fun k => q00p _ _ _ _ _ (opsW _ _ _ k)) _ (fun kc hkc => ?_)
    simp -implicitDefEqProofs only [clR, Nat.reduceLeDiff, go_sem, evR, rat, opR, Nat.reduceBEq]
    rw [← hkc]
    clear hkc
    simp -implicitDefEqProofs only [go_sem, evR, ints, rows, rat, rats, opR, Nat.reduceBEq]
    have hq := q17f g hg hgb 0 (.inl rfl)
    refine q006.res hq [] rfl Try.call67 ?_ (.inl rfl) ?_
    · simp -implicitDefEqProofs only [agR, Nat.reduceLeDiff, Nat.reduceSub, vaR, go_sem, ints, rows, rat, rats, q0p1, rtR, intsO, q0qa]
    refine q103 (p := fun k => q00p _ _ _ _ _ (opsW _ _ _ k)) _ (fun kc hkc => ?_)
    simp -implicitDefEqProofs only [clR, Nat.reduceLeDiff, go_sem, evR, rat, opR, Nat.reduceBEq]
    rw [← hkc]
    clear hkc
    simp -implicitDefEqProofs only [go_sem, evR, ints, rows, rat, rats, opR, Nat.reduceBEq]
    refine q006.weak (Weak.trans (Weak.share 19 rfl) (Weak.trans (Weak.share 20 rfl) (Weak.trans (Weak.share 22 rfl) (Weak.of [(3, .t (.pin [.sh 5 (chunk q0lu g.nd), rows g.w, rows g.v] 0)), (5, .t (.pin [.i p.1, rows p.2] 0)), (6, .t (.pin [.i q.1, rows q.2] 0)), (19, .t (.pin [.i 0, rows (uniL g 0)] 0)), (20, .t (.pin [.i 1, rows (uniL g 1)] 0)), (21, .t (.i 0)), (22, .t (.pin [.i 0, rows (uniL g 0)] 0)), (23, .t (.i 0)), (126, .t (.agg [.sh 5 (chunk q0lu g.nd), rows g.w, rows g.v]))] [] [] (by simp) (by simp) ?_ ?_)))) ?_
    · simp -implicitDefEqProofs only [ints, rows, Nat.reduceBEq, wkR, Nat.reduceEqDiff, ↓reduceIte, wrR, q0rg, T.toSh, T.toShL, nodes, q0vg]
    · exact trivial
    have hq := q17f g hg hgb 1 (.inr rfl)
    refine q006.res hq [] rfl Try.call67 ?_ (.inl rfl) ?_
    · simp -implicitDefEqProofs only [agR, Nat.reduceLeDiff, Nat.reduceSub, vaR, go_sem, ints, rows, rat, rats, q0p1, rtR, intsO, q0qa]
    refine q103 (p := fun k => q00p _ _ _ _ _ (opsW _ _ _ k)) _ (fun kc hkc => ?_)
    simp -implicitDefEqProofs only [clR, Nat.reduceLeDiff, go_sem, evR, rat, opR, Nat.reduceBEq, beq_self_eq_true, nodes, rows]
    rw [← hkc]
    clear hkc
    simp -implicitDefEqProofs only [go_sem, evR, ints, rows, rat, rats, opR, Nat.reduceBEq, beq_self_eq_true, nodes]
    have h120 := q17y (q189 hgb (.inl rfl))
    have h121 := q17y (q189 hgb (.inr rfl))
    have hq := q17p (0, uniL g 0) h120
    simp only [] at hq
    refine q006.pure hq [] rfl Try.call65 ?_ (by first | trivial | simp [T.noSh, T.noShL, rat]) rfl ?_
    · simp -implicitDefEqProofs only [agR, Nat.reduceLeDiff, Nat.reduceSub, vaR, go_sem, ints, rows, rat, rats, q0p1, rtR, intsO, q0qa]
    simp -implicitDefEqProofs only [go_sem, evR, ints, rows, rat, rats, opR, Nat.reduceBEq]
    have hq := q17p (1, uniL g 1) h121
    simp only [] at hq
    refine q006.pure hq [148002] rfl Try.call65 ?_ (by first | trivial | simp [T.noSh, T.noShL, rat]) rfl ?_
    · simp -implicitDefEqProofs only [agR, Nat.reduceLeDiff, Nat.reduceSub, vaR, go_sem, ints, rows, rat, rats, q0p1, rtR, intsO, q0qa]
    simp -implicitDefEqProofs only [go_sem, evR, ints, rows, rat, rats, opR, Nat.reduceBEq]
    have hpl : q0q9 p.2 := ⟨Nat.le_trans (q0qd hr.1).1 (by decide), fun r h => Nat.le_trans ((q0qd hr.1).2 r h) (by decide)⟩
    have hql : q0q9 q.2 := ⟨Nat.le_trans (q0qd hr.2).1 (by decide), fun r h => Nat.le_trans ((q0qd hr.2).2 r h) (by decide)⟩
    rw [q16d hcd] at hA
    simp only [Prod.mk.injEq] at hA
    obtain ⟨rfl, rfl, hA⟩ := hA
    have hq := q17l (q17e g (0, stM (runI g n).s0) hg hpl)
    rw [show strB g (0, stM (runI g n).s0) = true from b1] at hq
    refine q006.pure hq [] rfl Try.call91 ?_ (by first | trivial | simp [T.noSh, T.noShL, rat]) rfl ?_
    · simp -implicitDefEqProofs only [agR, Nat.reduceLeDiff, Nat.reduceSub, vaR, go_sem, ints, rows, rat, rats, q0p1, rtR, intsO, q0qa]
    simp -implicitDefEqProofs only [go_sem, evR, ints, rows, rat, rats]
    have hq := q17l (q17e g (1, stM (runI g n).s1) hg hql)
    rw [show strB g (1, stM (runI g n).s1) = true from b2] at hq
    refine q006.pure hq [] rfl Try.call91 ?_ (by first | trivial | simp [T.noSh, T.noShL, rat]) rfl ?_
    · simp -implicitDefEqProofs only [agR, Nat.reduceLeDiff, Nat.reduceSub, vaR, go_sem, ints, rows, rat, rats, q0p1, rtR, intsO, q0qa]
    simp -implicitDefEqProofs only [go_sem, evR, ints, rows, rat, rats]
end
end Go.Ab

namespace Go.Proofs.Ytkmmkgpnlmdcfaa
open Go.ChangeShapes Go.WideShapes Go.ChangeAt Go.RowKit Go.Ab

namespace fnTrained
theorem said : ∀ xs, wtL [q168] xs -> Pure Try.prog 18 xs (.b true)
  | [x], h => by
    obtain ⟨cs, rfl, _, hc⟩ := q169 h.1
    exact q17n cs hc
  | [], h => h.elim
  | _ :: _ :: _, h => h.2.elim

set_option maxRecDepth 100000 in
theorem lifted (os : Os) (started : os.Started) (H : Type) (enc : TypeId × Value -> H) :
    ReturnsInHanded {} Try.checked os 18 .any (Rows.fnTrainedSpec.pre6 enc Try.prog Try.f18 Rows.fnTrainedRow.domain false) (Rows.fnTrainedSpec.post enc Try.prog Try.f18 false true false false) := by
  refine returnsInHanded_of_change (C := Try.checked) (by kernel_rfl) started (by kernel_rfl) Try.func18
    (ChangeSpec.witness6 (enc := enc) (C := Try.checked) false ⟨#[], #[.slice none 0 0], []⟩ 8 (by kernel_rfl) (by kernel_rfl) (by kernel_rfl) (by kernel_rfl)) ?_
  intro W base args ds gs before hval hW _ _
  refine q0hc (tys := [q168]) (by kernel_rfl) (by kernel_rfl) rfl (by kernel_rfl) rfl (fun ds h => ?_) said W base args ds gs before hval hW
  match ds, h with
  | [d0], _ => rfl

theorem andT {a b : Bool} (ha : a = true) (hb : b = true) : (a && b) = true := by rw [ha, hb]; rfl
theorem q0g8 : ((Rows.fnTrainedRow.wf (OpenSpec.ofChange Rows.fnTrainedSpec))) = true := by kernel_rfl
theorem q0g9 : (laidOutB Try.prog) = true := Try.laidOutT
theorem q0gk : (mapsRowed Try.prog) = true := Try.mapsRowedT
theorem q0gv : (Try.f18.params.all (Try.prog.readableRec ·)) = true := by kernel_rfl
theorem q0gy : (namedTie Try.prog Rows.fnTrainedRow.named Rows.fnTrainedSpec.vars) = true := by kernel_rfl
theorem q0gz : ((Rows.fnTrainedRow.stops == [])) = true := by kernel_rfl
theorem q0h0 : ((Try.prog.stops == [])) = true := by kernel_rfl
theorem q0h1 : ((Rows.fnTrainedRow.knobs == [])) = true := by kernel_rfl
theorem q0h2 : ((Try.prog.stopKnobs == [])) = true := by kernel_rfl
theorem q0h3 : ((Rows.fnTrainedRow.inPlace == Try.prog.inPlace 18)) = true := by kernel_rfl
theorem q0ga : ((Rows.fnTrainedRow.unfollowed == Try.prog.unfollowed 18)) = true := by kernel_rfl
theorem q0gb : ((Rows.fnTrainedRow.recurses == Try.prog.recurses 18)) = true := by kernel_rfl
theorem q0gc : ((Rows.fnTrainedRow.named == Try.prog.varsNamed 18)) = true := by kernel_rfl
theorem q0gd : ((Rows.fnTrainedRow.maps == (Try.f18.params.toList ++ Rows.fnTrainedSpec.plain.varTypes Try.prog).any (Try.prog.mapsRec ·))) = true := by kernel_rfl
theorem q0ge : ((Rows.fnTrainedRow.ifaces == (Try.f18.params.toList ++ Rows.fnTrainedSpec.plain.varTypes Try.prog).any (Try.prog.ifacesRec ·))) = true := by kernel_rfl
theorem q0gf : ((Rows.fnTrainedRow.mapsOut == Try.prog.mapsAmong Try.f18.resultTypes.toList)) = true := by kernel_rfl
theorem q0gg : ((Rows.fnTrainedRow.loops == (Try.f18.params.toList ++ Rows.fnTrainedSpec.plain.varTypes Try.prog).any (Try.prog.loopsFrom ·))) = true := by kernel_rfl
theorem q0gh : ((Rows.fnTrainedRow.wideKeys == (Try.f18.params.toList ++ Rows.fnTrainedSpec.plain.varTypes Try.prog ++ Try.f18.resultTypes.toList).any (Try.prog.wideKeysFrom ·))) = true := by kernel_rfl
theorem q0gi : (Rows.fnTrainedSpec.vars.all (Try.prog.varReadable ·)) = true := by kernel_rfl
theorem q0gj : (Try.f18.resultTypes.all (fun t => Try.prog.readableRec t && decide (t < Try.prog.types.size))) = true := by kernel_rfl
theorem q0gl : ((Rows.fnTrainedRow.ifacesOut == Try.f18.resultTypes.toList.any (Try.prog.ifacesRec ·))) = true := by kernel_rfl
theorem q0gm : ((Rows.fnTrainedRow.loopsOut == Try.f18.resultTypes.toList.any (Try.prog.loopsFrom ·))) = true := by kernel_rfl
theorem q0gn : ((Rows.fnTrainedRow.plainKeys == Try.prog.plainKeys)) = true := by kernel_rfl
theorem q0go : (Rows.fnTrainedRow.shortTexts.isNone) = true := by kernel_rfl
theorem q0gp : (Try.prog.stopsHeard) = true := Try.heardT
theorem q0gq : (Try.prog.mayEnter) = true := Try.mayEnterT
theorem q0gr : ((Rows.fnTrainedRow.lifted == Try.prog.liftsFinal)) = true := (by rw [Try.liftsF]; rfl)
theorem q0gs : ((Try.prog.make == some Rows.fnTrainedRow.make)) = true := (by rw [Try.makeC]; rfl)
theorem q0gt : ((Rows.fnTrainedRow.kinds == (if Rows.fnTrainedRow.domain.isEmpty then [] else Try.f18.params.toList.map fun t => match Try.prog.underlying t with | some (.int k) => some k | _ => none))) = true := by kernel_rfl
theorem q0gu : ((Rows.fnTrainedRow.pinned == Rows.fnTrainedRow.pinnedBy)) = true := by kernel_rfl
theorem q0gw : ((Rows.fnTrainedRow.veiled == (Try.f18.params.toList ++ Rows.fnTrainedSpec.plain.varTypes Try.prog ++ Try.f18.resultTypes.toList).any (Try.prog.veiledRec ·))) = true := by kernel_rfl
theorem q0gx : (Rows.fnTrainedRow.veiledFits Try.prog Try.f18.params.toList (Try.f18.params.toList ++ Rows.fnTrainedSpec.plain.varTypes Try.prog ++ Try.f18.resultTypes.toList)) = true := by kernel_rfl
set_option maxRecDepth 100000 in
theorem joined : joinedFacts Try.prog 18 Try.f18 Rows.fnTrainedSpec Rows.fnTrainedRow = true := by
  unfold joinedFacts
  exact andT (andT (andT (andT (andT (andT (andT (andT (andT (andT (andT (andT (andT (andT (andT (andT (andT (andT (andT (andT (andT (andT (andT (andT (andT (andT (andT (andT (andT (andT (andT (q0g8) q0g9) q0gk) q0gv) q0gy) q0gz) q0h0) q0h1) q0h2) q0h3) q0ga) q0gb) q0gc) q0gd) q0ge) q0gf) q0gg) q0gh) q0gi) q0gj) q0gl) q0gm) q0gn) q0go) q0gp) q0gq) q0gr) q0gs) q0gt) q0gu) q0gw) q0gx
theorem over : Rows.fnTrainedRow.holds Try.pinned (OpenSpec.ofChange Rows.fnTrainedSpec) :=
  OpenClaim.holds_of_wide 18 Try.f18 rfl rfl rfl rfl rfl rfl rfl ⟨rfl, rfl, rfl, rfl, rfl⟩ rfl rfl rfl rfl rfl (by kernel_rfl) Try.func18 joined
    (of_decide_eq_true (by kernel_rfl)) (by unfold Func.isWrapper; first | (rw [if_pos (by decide +kernel)]; kernel_rfl) | (rw [if_neg (by decide +kernel)]; exact ⟨rfl, rfl⟩))
    (fun os started H enc _ => lifted os started H enc)
end fnTrained

theorem fnTrained_holds : Rows.FnTrainedSaid := fnTrained.over
#print axioms fnTrained_holds
end Go.Proofs.Ytkmmkgpnlmdcfaa
