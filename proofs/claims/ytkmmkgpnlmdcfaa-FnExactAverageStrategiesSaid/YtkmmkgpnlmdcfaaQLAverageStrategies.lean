/- The program's AverageStrategies returns what the reference's returns, for all arguments, and keeps its arguments (and its earlier result): the law FnExactAverageStrategies returns true for every input. No conditions. -/
import Derived.Test.YtkmmkgpnlmdcfaaRows
import Derived.Test.YtkmmkgpnlmdcfaaQ5
/- Contracts: an iteration of the program. -/
set_option linter.unusedSimpArgs false
set_option linter.unusedVariables false
namespace Go.Ab
open Go.Proofs
def pwrK (l : List Nd) (ch : List Int) (k : Nat) : Int := (ch.take k).foldl (fun d (c : Int) => max d (dep l l.length c.toNat)) 0
theorem pwrK_succ {l : List Nd} {ch : List Int} {k : Nat} {c : Int} (h : ch[k]? = some c) : pwrK l ch (k + 1) = max (pwrK l ch k) (dep l l.length c.toNat) := by
  simp only [pwrK, take_snoc h, List.foldl_append, List.foldl_cons, List.foldl_nil]
theorem pwrK_all {g : Gm} (hg : isGameB g = true) {n : Nat} (hn : n < g.nd.length) (h2 : (g.nd.getD n nd0).p ≠ 2) : pwrK g.nd (g.nd.getD n nd0).ch (g.nd.getD n nd0).ch.length = belowN g n := by
  obtain ⟨p1, p2, p3, p4, p5⟩ := isGameB_parts hg
  obtain ⟨t1, t2, t3, t4⟩ := isTreeB_spec p1
  obtain ⟨e1, e2, e3⟩ := below_spec hg hn h2
  have hx : g.nd[n]? = some (g.nd.getD n nd0) := by rw [List.getD_eq_getElem?_getD, List.getElem?_eq_getElem hn]; rfl
  have hch := ndOK_child (t2 n _ hx)
  obtain ⟨F, hF⟩ : ∃ F, g.nd.length = F + 1 := ⟨g.nd.length - 1, by omega⟩
  have e4 : dep g.nd (F + 1) n = ((g.nd.getD n nd0).ch.foldl (fun d c => max d (dep g.nd F c.toNat)) 0) + 1 := by
    rw [dep]; exact if_neg h2
  rw [hF, e4] at e2
  have e5 : (g.nd.getD n nd0).ch.foldl (fun d (c : Int) => max d (dep g.nd g.nd.length c.toNat)) 0 = (g.nd.getD n nd0).ch.foldl (fun d c => max d (dep g.nd F c.toNat)) 0 := by
    refine foldl_congr' _ _ fun b c hc => ?_
    have := hch c hc
    rw [dep_stable t2 g.nd.length F c.toNat (by omega) (by omega)]
  rw [pwrK, List.take_of_length_le (Nat.le_refl _), e5]
  omega
theorem pwrK_bound {g : Gm} (hg : isGameB g = true) {n : Nat} (hn : n < g.nd.length) (h2 : (g.nd.getD n nd0).p ≠ 2) (k : Nat) : 0 ≤ pwrK g.nd (g.nd.getD n nd0).ch k ∧ pwrK g.nd (g.nd.getD n nd0).ch k ≤ 4 := by
  obtain ⟨e1, e2, e3⟩ := below_spec hg hn h2
  unfold pwrK
  have h : ∀ (cs : List Int) (a : Int), (∀ c ∈ cs, dep g.nd g.nd.length c.toNat ≤ 4) → 0 ≤ a ∧ a ≤ 4 → 0 ≤ cs.foldl (fun d (c : Int) => max d (dep g.nd g.nd.length c.toNat)) a ∧ cs.foldl (fun d (c : Int) => max d (dep g.nd g.nd.length c.toNat)) a ≤ 4 := by
    intro cs
    induction cs with
    | nil => intro a _ h; exact h
    | cons c cs ih => intro a h ha; exact ih _ (fun c' hc' => h c' (by simp [hc'])) (by have := h c (by simp); show 0 ≤ max a (dep g.nd g.nd.length c.toNat) ∧ max a (dep g.nd g.nd.length c.toNat) ≤ 4; omega)
  exact h _ _ (fun c hc => by have := (e3 c (List.mem_of_mem_take hc)).2.2; omega) (by omega)
def cntW (g : Gm) (s t : List (List Int)) (pl : Int) (n c m : Nat) : List Int := (g.nd.getD n nd0).ch.map fun k => cntN g s t pl n c k.toNat m
theorem cntW_length (g : Gm) (s t : List (List Int)) (pl : Int) (n c m : Nat) : (cntW g s t pl n c m).length = (g.nd.getD n nd0).ch.length := by simp [cntW]
theorem cntW_get {g : Gm} {s t : List (List Int)} {pl : Int} {n c m k : Nat} {x : Int} (h : (g.nd.getD n nd0).ch[k]? = some x) : (cntW g s t pl n c m)[k]? = some (cntN g s t pl n c x.toNat m) := by rw [cntW, List.getElem?_map, h]; rfl
theorem cntW_zero (g : Gm) (s t : List (List Int)) (pl : Int) (n c : Nat) : cntW g s t pl n c 0 = List.replicate (g.nd.getD n nd0).ch.length 0 := by
  unfold cntW
  generalize (g.nd.getD n nd0).ch = l
  induction l with
  | nil => rfl
  | cons x l ih => rw [List.map_cons, ih]; rfl
theorem cntW_skip {g : Gm} {s t : List (List Int)} {pl : Int} {n c m : Nat} (h : rchW g s t pl n c m = 0) : cntW g s t pl n c (m + 1) = cntW g s t pl n c m := by
  unfold cntW
  refine List.map_congr_left fun k _ => ?_
  rw [cntN_succ, cntF, h, Int.zero_mul, Int.add_zero]
theorem set_same {α : Type} {l : List α} {i : Nat} {x : α} (h : l[i]? = some x) : l.set i x = l := by
  obtain ⟨h1, rfl⟩ := List.getElem?_eq_some_iff.1 h
  exact List.set_getElem_self h1
def evT (g : Gm) (s t : List (List Int)) : T := .pin [.sh 5 (chunk nodeC g.nd), .sh 1 (g.w.map ints), .sh 1 (g.v.map ints), .sh 1 ((ownL g 0).map T.i), .sh 1 ((ownL g 1).map T.i), .sh 1 (s.map ints), .sh 1 (t.map ints), .sh 1 ((parN g.nd g.nd.length).map T.i)] 0
section
attribute [-go_sem] load1C load1V fldC lenC idxC loadNV nilCheckW
set_option maxRecDepth 20000 in
set_option maxHeartbeats 2000000 in
theorem impl_update0 {g : Gm} (hg : isGameB g = true) {s t : List (List Int)} (hs : partsOK g s 0) (ht : partsOK g t 1) {R Z U V : List (List Int)} {B : Int} (hR : okM g 0 B R) (hZ : okM g 0 B Z) (hB : B ≤ 30000000000000000) {i : Nat} (hi : i < (sets g 0).length) :
    Fun Try.prog 210 [.box [nodes g.nd, rows g.w, rows g.v, rowsO R, rowsO U, rowsO Z, rowsO V]] [.own 1000000000, .t (evT g s t), .t (.i 0), .t (.i i), .t (.i (setN g 0 i)), .t (.i (setC g 0 i))] fun o q => o = [.box [nodes g.nd, rows g.w, rows g.v, rowsO (R.set i (rowR g s t 0 R i)), rowsO U, rowsO (Z.set i (rowS g s t 0 Z i)), rowsO V]] ∧ q = .tup [] := by
  obtain ⟨p1, p2, p3, p4, p5⟩ := isGameB_parts hg
  obtain ⟨t1, t2, t3, t4⟩ := isTreeB_spec p1
  obtain ⟨a1, a2, a3, a4, a5, a6⟩ := set_parts hi
  obtain ⟨r, hr, hr', hrl, hrb⟩ := okM_get hR hi
  obtain ⟨z, hz, hz', hzl, hzb⟩ := okM_get hZ hi
  obtain ⟨w1, w2, w3, w4⟩ := mine_row hg ((.inl rfl) : (0 : Int) = 0 ∨ (0 : Int) = 1) (ot_ok hs ht (.inl rfl)).1 hi
  obtain ⟨f1, f2⟩ := rowR_ok hg hs ht (.inl rfl) hR hi
  obtain ⟨f3, f4⟩ := rowS_ok hg hs ht (.inl rfl) hZ hi
  have hmw : wayP g (mineOf 0 s t) 0 (setC g 0 i) (setN g 0 i) = wayP g (mineOf 0 s t) 0 (if (0 : Int) = 0 then setC g 0 i else setC g 0 i) (setN g 0 i) := by split <;> rfl
  have hRd : rowR g s t 0 R i = updR r (cnts g s t 0 (setN g 0 i) (setC g 0 i)) (meanA ((mineOf 0 s t).getD i []) (cnts g s t 0 (setN g 0 i) (setC g 0 i))) := by rw [rowR, hr']
  have hSd : rowS g s t 0 Z i = updW z ((mineOf 0 s t).getD i []) (wayP g (mineOf 0 s t) 0 (setC g 0 i) (setN g 0 i)) := by rw [rowS, hz']
  generalize hqq : (mineOf 0 s t).getD i [] = q at w1 w2 w3 w4 hRd hSd
  generalize setN g 0 i = n at a1 a2 a4 a5 hRd hSd hmw ⊢
  generalize setC g 0 i = c at a1 a3 hRd hSd hmw ⊢
  have hn := a2
  have hc := a3
  have h2 : (g.nd.getD n nd0).p ≠ 2 := by omega
  obtain ⟨e1, e2, e3⟩ := below_spec hg hn h2
  have hpk := pwrK_bound hg hn h2
  have hpa := pwrK_all hg hn h2
  obtain ⟨x, hx⟩ : ∃ x, g.nd[n]? = some x := ⟨_, List.getElem?_eq_getElem hn⟩
  have hxd : g.nd.getD n nd0 = x := by rw [List.getD_eq_getElem?_getD, hx]; rfl
  have hxl := (ndOK_fields (t2 _ _ hx)).2.2.2.2.2
  have hch := ndOK_child (t2 n _ hx)
  have hcvl := cntW_length g s t 0 n c
  have hcvg : ∀ (k m : Nat) (y : Int), x.ch[k]? = some y → (cntW g s t 0 n c m)[k]? = some (cntN g s t 0 n c y.toNat m) := fun k m y h => cntW_get (by rw [hxd]; exact h)
  have hcv0 := cntW_zero g s t 0 n c
  have hcvA : cntW g s t 0 n c g.w.length = cnts g s t 0 n c := rfl
  rw [hxd] at e3 a5 hcv0 hpa hpk hcvl
  have hcb := cnts_abs hg hs ht ((.inl rfl) : (0 : Int) = 0 ∨ (0 : Int) = 1) hn h2 hc
  have hcl := cnts_length g s t 0 n c
  rw [hxd] at hcl
  refine fun___impl_regretRun__update_h (by simp) ?_
  simp -implicitDefEqProofs only [go_sem, evR, ints, rows, rat, rats, c___impl_regretRun__update_h, nodes, rowsO, nd_get4 hx, opR, Nat.reduceBEq]
  repeat (first | refine ⟨by omega, ?_⟩ | refine ⟨by rw [nd_len]; omega, ?_⟩)
  refine SemC.loopR (σ := Nat) (fun k => St.of [(0, .own 1000000000), (1, .t (evT g s t)), (2, .t (.i 0)), (3, .t (.i i)), (4, .t (.i n)), (5, .t (.i c)), (12, .t (ints x.ch)), (13, .t (.i (pwrK g.nd x.ch k))), (41, .t (ints x.ch)), (42, .t (.i x.ch.length)), (43, .t (.i k))] [(1000000000, .box [nodes g.nd, rows g.w, rows g.v, rowsO R, rowsO U, rowsO Z, rowsO V])]) (fun k => k ≤ x.ch.length) (fun k => x.ch.length - k) 0 (Weak.of _ _ [some 1000000000] (by simp) (by simp) ?_ ?_) (by omega) fun k hk Q1 hn1 hr1 he1 => ?_
  · simp -implicitDefEqProofs only [ints, rows, Nat.reduceBEq, wkR, Nat.reduceEqDiff, ↓reduceIte, wrR, nodes, evT, show pwrK g.nd x.ch 0 = 0 from rfl]
  · exact ⟨⟨_, rfl, .refl _⟩, rfl, trivial⟩
  rcases Nat.lt_or_ge k x.ch.length with h9 | h9
  · obtain ⟨y, hy⟩ : ∃ y, x.ch[k]? = some y := ⟨_, List.getElem?_eq_getElem h9⟩
    obtain ⟨y0, y1, y2⟩ := e3 y (List.mem_of_getElem? hy)
    simp -implicitDefEqProofs only [go_sem, evR, ints, rows, rat, rats, nodes, rowsO, evT, hy, decide_eq_true (show (k : Int) < (x.ch.length : Int) by omega), opR, Nat.reduceBEq]
    repeat (first | refine ⟨by omega, ?_⟩ | refine ⟨by rw [nd_len]; omega, ?_⟩)
    have hd := dep_t (impl_depthFrom_ok t2 (by omega) g.nd.length y.toNat (by omega) y1 (by omega))
    rw [show ((y.toNat : Nat) : Int) = y by omega] at hd
    refine CallW.pure hd [] rfl Try.call164 ?_ (by first | trivial | simp [T.noSh, T.noShL, rat]) rfl ?_
    · simp -implicitDefEqProofs only [agR, Nat.reduceLeDiff, Nat.reduceSub, vaR, go_sem, ints, rows, rat, rats, ratsO, rtR, intsO, rowsO]
    simp -implicitDefEqProofs only [go_sem, evR, ints, rows, rat, rats]
    refine hn1 _ (k + 1) (Weak.of _ _ [some 1000000000] (by simp) (by simp) ?_ ?_) (by omega) (by omega)
    · simp -implicitDefEqProofs only [ints, rows, Nat.reduceBEq, wkR, Nat.reduceEqDiff, ↓reduceIte, wrR, nodes, evT, next64 h9 (show x.ch.length ≤ 1000000000000 by omega), pwrK_succ hy]
    · exact ⟨⟨_, rfl, .refl _⟩, rfl, trivial⟩
  have hkl : k = x.ch.length := by omega
  subst hkl
  rw [hpa]
  simp -implicitDefEqProofs only [go_sem, evR, ints, rows, rat, rats, nodes, rowsO, evT, decide_eq_false (show ¬ (x.ch.length : Int) < (x.ch.length : Int) by omega), opR, Nat.reduceBEq]
  refine he1 _ _ ?_
  simp -implicitDefEqProofs only [go_sem, evR, ints, rows, rat, rats, made_one, opR, Nat.reduceBEq]
  repeat (first | refine ⟨by omega, ?_⟩ | refine ⟨by rw [nd_len]; omega, ?_⟩)
  refine SemC.loopR (σ := Nat) (fun o => St.of [(0, .own 1000000000), (1, .t (evT g s t)), (2, .t (.i 0)), (3, .t (.i i)), (4, .t (.i n)), (5, .t (.i c)), (12, .t (ints x.ch)), (13, .t (.i (belowN g n))), (16, .own 98), (65, .t (.i g.w.length)), (66, .t (.i o))] [(1000000000, .box [nodes g.nd, rows g.w, rows g.v, rowsO R, rowsO U, rowsO Z, rowsO V]), (98, intsO (cntW g s t 0 n c o))]) (fun o => o ≤ g.w.length) (fun o => g.w.length - o) 0 (Weak.of _ _ [some 1000000000, some 59] (by simp) (by simp) ?_ ?_) (by omega) fun o ho Q2 hn2 hr2 he2 => ?_
  · simp -implicitDefEqProofs only [ints, rows, Nat.reduceBEq, wkR, Nat.reduceEqDiff, ↓reduceIte, wrR, nodes, evT]
  · refine ⟨⟨_, rfl, .refl _⟩, rfl, ⟨_, rfl, ?_⟩, rfl, trivial⟩
    rw [hcv0, intsO, List.map_replicate]; exact .refl _
  rcases Nat.lt_or_ge o g.w.length with h8 | h8
  · obtain ⟨rw0, zw, hr0, hzw, hz0, hz9⟩ := game_w hg hc h8
    have hrwl : rw0.length = g.w.length := ((matK_iff.1 p3).2 rw0 (List.mem_of_getElem? hr0)).1
    have hwz : wAt g 0 c o = zw := by
      unfold wAt
      simp only [List.getD_eq_getElem?_getD, hr0, hzw, Option.getD_some, if_pos]
    have hot := (ot_ok hs ht ((.inl rfl) : (0 : Int) = 0 ∨ (0 : Int) = 1)).2
    have hr1' := rchW_abs (c := c) hg hs ht ((.inl rfl) : (0 : Int) = 0 ∨ (0 : Int) = 1) hn h8
    have hpw := pw_le4 (p := (wayL g.nd n).length) (by omega)
    have hcall := impl_wayProduct_ok hg hs ht ((.inr rfl) : (1 : Int) = 0 ∨ (1 : Int) = 1) (n := n) (a := c) (b := o) hn (by omega) (by omega)
    rw [show (if (1 : Int) = 0 then c else o) = o from rfl] at hcall
    have hrw : 1 * zw * wayP g (mineOf 1 s t) 1 o n = rchW g s t 0 n c o := by rw [rchW, hwz]; rfl
    simp -implicitDefEqProofs only [go_sem, evR, ints, rows, rat, rats, nodes, rowsO, intsO, evT, hr0, hzw, decide_eq_true (show (o : Int) < (g.w.length : Int) by omega), show ((0 : Int) == 1) = false from rfl, show ((1 : Int) == 1) = true from rfl, show IntKind.i64.wrap (1 - 0) = 1 from rfl, show IntKind.i64.wrap (1 - 1) = 0 from rfl, opR, Nat.reduceBEq]
    repeat (first | refine ⟨by omega, ?_⟩ | refine ⟨by rw [nd_len]; omega, ?_⟩)
    refine CallH.ref hcall [] [] rfl Try.call226 (by simp) ?_ (by simp) (fun e R' hR => ?_) (.inl rfl) ?_
    · simp -implicitDefEqProofs only [srR, Nat.reduceEqDiff, ↓reduceIte, ints, rows, intsO, rowsO]
    · simp -implicitDefEqProofs only [agR, Nat.reduceLeDiff, Nat.reduceSub, vaR, go_sem, ints, rows, rat, rats, ratsO, rtR, intsO, rowsO]
    simp -implicitDefEqProofs only [clR, Nat.reduceLeDiff, go_sem, evR, rat, wrap64 (n := 1 * zw) (by omega) (by omega), hrw, wrap64 (n := rchW g s t 0 n c o) (by omega) (by omega)]
    refine ⟨⟨fun h5 => ?_, fun h5 => ?_⟩, frameOK.refl _ _ _⟩
    · have h5 : rchW g s t 0 n c o = 0 := by simpa using h5
      refine hn2 _ (o + 1) (Weak.of _ _ [some 1000000000, some 98] (by simp) (by simp) ?_ ?_) (by omega) (by omega)
      · simp -implicitDefEqProofs only [ints, rows, Nat.reduceBEq, wkR, Nat.reduceEqDiff, ↓reduceIte, wrR, nodes, evT, next64 h8 (by omega)]
      · refine ⟨⟨_, rfl, .refl _⟩, rfl, ⟨_, rfl, ?_⟩, rfl, trivial⟩
        rw [cntW_skip h5]; exact .refl _
    · refine SemC.loopR (σ := Nat) (fun k => St.of [(0, .own 1000000000), (1, .t (evT g s t)), (2, .t (.i 0)), (3, .t (.i i)), (4, .t (.i n)), (5, .t (.i c)), (12, .t (ints x.ch)), (13, .t (.i (belowN g n))), (16, .own 98), (18, .t (.i c)), (19, .t (.i o)), (21, .t (.i (rchW g s t 0 n c o))), (65, .t (.i g.w.length)), (66, .t (.i o)), (98, .t (ints x.ch)), (99, .t (.i x.ch.length)), (100, .t (.i k))] [(1000000000, .box [nodes g.nd, rows g.w, rows g.v, rowsO R, rowsO U, rowsO Z, rowsO V]), (98, intsO (mixL (cntW g s t 0 n c (o + 1)) (cntW g s t 0 n c o) k))]) (fun k => k ≤ x.ch.length) (fun k => x.ch.length - k) 0 (Weak.of _ _ [some 1000000000, some 98] (by simp) (by simp) ?_ ?_) (by omega) fun k hk Q3 hn3 hr3 he3 => ?_
      · simp -implicitDefEqProofs only [ints, rows, Nat.reduceBEq, wkR, Nat.reduceEqDiff, ↓reduceIte, wrR, nodes, evT]
      · refine ⟨⟨_, rfl, .refl _⟩, rfl, ⟨_, rfl, ?_⟩, rfl, trivial⟩
        rw [mix_zero]; exact .refl _
      have hcl1 : (cntW g s t 0 n c (o + 1)).length = (cntW g s t 0 n c o).length := by rw [cntW_length, cntW_length]
      have hcl0 : (cntW g s t 0 n c o).length = x.ch.length := by rw [cntW_length, hxd]
      rcases Nat.lt_or_ge k x.ch.length with h7 | h7
      · obtain ⟨y, hy⟩ : ∃ y, x.ch[k]? = some y := ⟨_, List.getElem?_eq_getElem h7⟩
        obtain ⟨y0, y1, y2⟩ := e3 y (List.mem_of_getElem? hy)
        have hym : y ∈ (g.nd.getD n nd0).ch := by rw [hxd]; exact List.mem_of_getElem? hy
        have hsu := cntN_succ g s t 0 n c y.toNat o
        have k1 := cntN_abs hg hs ht ((.inl rfl) : (0 : Int) = 0 ∨ (0 : Int) = 1) hn h2 hc hym (m := o) (by omega)
        have k2 := cntN_abs hg hs ht ((.inl rfl) : (0 : Int) = 0 ∨ (0 : Int) = 1) hn h2 hc hym (m := o + 1) (by omega)
        have k3 := cntF_abs hg hs ht ((.inl rfl) : (0 : Int) = 0 ∨ (0 : Int) = 1) hn h2 hc h8 hym
        have hval := value_t (impl_value_ok hg hs ht hc h8 g.nd.length y.toNat (belowN g n) (by omega) y1 y2 (by omega))
        rw [show ((y.toNat : Nat) : Int) = y by omega] at hval
        have hcf : rchW g s t 0 n c o * val g s t g.nd.length y.toNat c o (belowN g n) = cntF g s t 0 n c y.toNat o := rfl
        have hg1 : (mixL (cntW g s t 0 n c (o + 1)) (cntW g s t 0 n c o) k)[k]? = some (cntN g s t 0 n c y.toNat o) := by
          rw [mix_get hcl1 (by omega)]; exact hcvg k o y hy
        have hml : (mixL (cntW g s t 0 n c (o + 1)) (cntW g s t 0 n c o) k).length = x.ch.length := by rw [mix_length hcl1 (by omega), hcl0]
        simp -implicitDefEqProofs only [go_sem, evR, ints, rows, rat, rats, nodes, rowsO, intsO, evT, hy, hg1, hml, decide_eq_true (show (k : Int) < (x.ch.length : Int) by omega), opR, Nat.reduceBEq]
        repeat (first | refine ⟨by omega, ?_⟩ | refine ⟨by rw [nd_len]; omega, ?_⟩)
        refine CallH.ref hval [] [] rfl Try.call180 (by simp) ?_ (by simp) (fun e R' hR => ?_) (.inl rfl) ?_
        · simp -implicitDefEqProofs only [srR, Nat.reduceEqDiff, ↓reduceIte, ints, rows, intsO, rowsO]
        · simp -implicitDefEqProofs only [agR, Nat.reduceLeDiff, Nat.reduceSub, vaR, go_sem, ints, rows, rat, rats, ratsO, rtR, intsO, rowsO]
        simp -implicitDefEqProofs only [clR, Nat.reduceLeDiff, go_sem, evR, rat, hml, hcf, wrap64 (n := cntF g s t 0 n c y.toNat o) (by omega) (by omega), ← hsu, wrap64 (n := cntN g s t 0 n c y.toNat (o + 1)) (by omega) (by omega)]
        refine ⟨⟨by omega, by omega, by omega, hn3 _ (k + 1) (Weak.of _ _ [some 1000000000, some 98] (by simp) (by simp) ?_ ?_) (by omega) (by omega)⟩, frameOK.refl _ _ _⟩
        · simp -implicitDefEqProofs only [ints, rows, Nat.reduceBEq, wkR, Nat.reduceEqDiff, ↓reduceIte, wrR, nodes, evT, next64 h7 (show x.ch.length ≤ 1000000000000 by omega)]
        · refine ⟨⟨_, rfl, .refl _⟩, rfl, ⟨_, rfl, ?_⟩, rfl, trivial⟩
          rw [← mix_set hcl1 (hcvg k (o + 1) y hy), intsO, List.map_set]; exact .refl _
      · have hall : mixL (cntW g s t 0 n c (o + 1)) (cntW g s t 0 n c o) k = cntW g s t 0 n c (o + 1) := by
          have := mix_all hcl1
          rw [hcl0] at this
          rw [show k = x.ch.length by omega]; exact this
        rw [hall]
        simp -implicitDefEqProofs only [go_sem, evR, ints, rows, rat, rats, nodes, rowsO, intsO, evT, decide_eq_false (show ¬ (k : Int) < (x.ch.length : Int) by omega), opR, Nat.reduceBEq]
        refine he3 _ _ ?_
        simp -implicitDefEqProofs only [go_sem, evR, ints, rows, rat, rats]
        refine hn2 _ (o + 1) (Weak.of _ _ [some 1000000000, some 98] (by simp) (by simp) ?_ ?_) (by omega) (by omega)
        · simp -implicitDefEqProofs only [ints, rows, Nat.reduceBEq, wkR, Nat.reduceEqDiff, ↓reduceIte, wrR, nodes, evT, next64 h8 (by omega)]
        · exact ⟨⟨_, rfl, .refl _⟩, rfl, ⟨_, rfl, .refl _⟩, rfl, trivial⟩
  have hol : o = g.w.length := by omega
  subst hol
  rw [hcvA]
  simp -implicitDefEqProofs only [go_sem, evR, ints, rows, rat, rats, nodes, rowsO, intsO, evT, decide_eq_false (show ¬ (g.w.length : Int) < (g.w.length : Int) by omega), opR, Nat.reduceBEq]
  refine he2 _ _ ?_
  have hqi : (mineOf 0 s t)[i]? = some q := w1
  have hqs : s[i]? = some q := hqi
  have hqsl := (List.getElem?_eq_some_iff.1 hqs).1
  simp -implicitDefEqProofs only [go_sem, evR, ints, rows, rat, rats, evT, hqs, opR, Nat.reduceBEq]
  repeat (first | refine ⟨by omega, ?_⟩ | refine ⟨by rw [nd_len]; omega, ?_⟩)
  refine SemC.loopR (σ := Nat) (fun k => St.of [(0, .own 1000000000), (1, .t (evT g s t)), (2, .t (.i 0)), (3, .t (.i i)), (4, .t (.i n)), (5, .t (.i c)), (16, .own 98), (24, .t (ints q)), (25, .t (.i (meanP q (cnts g s t 0 n c) k))), (130, .t (ints q)), (131, .t (.i q.length)), (132, .t (.i k))] [(1000000000, .box [nodes g.nd, rows g.w, rows g.v, rowsO R, rowsO U, rowsO Z, rowsO V]), (98, intsO (cnts g s t 0 n c))]) (fun k => k ≤ q.length) (fun k => q.length - k) 0 (Weak.of _ _ [some 1000000000, some 98] (by simp) (by simp) ?_ ?_) (by omega) fun k hk Q4 hn4 hr4 he4 => ?_
  · simp -implicitDefEqProofs only [ints, rows, Nat.reduceBEq, wkR, Nat.reduceEqDiff, ↓reduceIte, wrR, nodes, evT, meanP_zero]
  · exact ⟨⟨_, rfl, .refl _⟩, rfl, ⟨_, rfl, .refl _⟩, rfl, trivial⟩
  rcases Nat.lt_or_ge k q.length with h9 | h9
  · obtain ⟨y, hy⟩ : ∃ y, q[k]? = some y := ⟨_, List.getElem?_eq_getElem h9⟩
    obtain ⟨v, hv⟩ : ∃ v, (cnts g s t 0 n c)[k]? = some v := ⟨_, List.getElem?_eq_getElem (by omega)⟩
    have hyb := w3 y (List.mem_of_getElem? hy)
    have hvb := hcb v (List.mem_of_getElem? hv)
    obtain ⟨m1, m2⟩ := mul_abs hyb.1 hvb.1 hvb.2
    have hms := meanP_succ hy hv
    have hm1 := meanP_abs w3 hcb k
    have hm2 := meanP_abs w3 hcb (k + 1)
    simp -implicitDefEqProofs only [go_sem, evR, ints, rows, rat, rats, nodes, rowsO, intsO, evT, hy, hv, decide_eq_true (show (k : Int) < (q.length : Int) by omega), opR, Nat.reduceBEq]
    repeat (first | refine ⟨by omega, ?_⟩ | refine ⟨by rw [nd_len]; omega, ?_⟩)
    refine hn4 _ (k + 1) (Weak.of _ _ [some 1000000000, some 98] (by simp) (by simp) ?_ ?_) (by omega) (by omega)
    · simp -implicitDefEqProofs only [ints, rows, Nat.reduceBEq, wkR, Nat.reduceEqDiff, ↓reduceIte, wrR, nodes, evT, next64 h9 (show q.length ≤ 1000000000000 by omega), wrap64 (n := y * v) (by omega) (by omega), ← hms, wrap64 (n := meanP q (cnts g s t 0 n c) (k + 1)) (by omega) (by omega)]
    · exact ⟨⟨_, rfl, .refl _⟩, rfl, ⟨_, rfl, .refl _⟩, rfl, trivial⟩
  have hkq : k = (cnts g s t 0 n c).length := by omega
  subst hkq
  simp -implicitDefEqProofs only [go_sem, evR, ints, rows, rat, rats, nodes, rowsO, intsO, evT, decide_eq_false (show ¬ ((cnts g s t 0 n c).length : Int) < (q.length : Int) by omega), opR, Nat.reduceBEq]
  refine he4 _ _ ?_
  simp -implicitDefEqProofs only [go_sem, evR, ints, rows, rat, rats, evT]
  have hway := impl_wayProduct_ok hg hs ht ((.inl rfl) : (0 : Int) = 0 ∨ (0 : Int) = 1) (n := n) (a := c) (b := c) hn hc hc
  rw [← hmw] at hway
  have hwb := own_bound hg (ot_ok hs ht ((.inl rfl) : (0 : Int) = 0 ∨ (0 : Int) = 1)).1 hc hn h2
  have hMb := meanP_abs w3 hcb (cnts g s t 0 n c).length
  have hMd : meanA q (cnts g s t 0 n c) = meanP q (cnts g s t 0 n c) (cnts g s t 0 n c).length := rfl
  refine CallW.pure hway [] rfl Try.call226 ?_ (by first | trivial | simp [T.noSh, T.noShL, rat]) rfl ?_
  · simp -implicitDefEqProofs only [agR, Nat.reduceLeDiff, Nat.reduceSub, vaR, go_sem, ints, rows, rat, rats, ratsO, rtR, intsO, rowsO]
  simp -implicitDefEqProofs only [go_sem, evR, ints, rows, rat, rats]
  generalize wayP g (mineOf 0 s t) 0 c n = w at hwb hSd ⊢
  rw [← hMd]
  rw [← hMd] at hMb
  generalize meanA q (cnts g s t 0 n c) = M at hMb hRd ⊢
  generalize cnts g s t 0 n c = C at hcb hcl hMb hRd hqsl ⊢
  generalize rowR g s t 0 R i = nr at f1 f2 hRd ⊢
  generalize rowS g s t 0 Z i = nz at f3 f4 hSd ⊢
  have hnl : nr.length = r.length := by omega
  have hnz : nz.length = z.length := by omega
  have hiR : i < R.length := (List.getElem?_eq_some_iff.1 hr).1
  have hiZ : i < Z.length := (List.getElem?_eq_some_iff.1 hz).1
  refine SemC.loopR (σ := Nat) (fun k => St.of [(0, .own 1000000000), (1, .t (evT g s t)), (2, .t (.i 0)), (3, .t (.i i)), (4, .t (.i n)), (5, .t (.i c)), (16, .own 98), (25, .t (.i M)), (28, .t (.i w)), (152, .t (ints q)), (153, .t (.i q.length)), (154, .t (.i k))] [(1000000000, .box [nodes g.nd, rows g.w, rows g.v, rowsO (R.set i (mixL nr r k)), rowsO U, rowsO (Z.set i (mixL nz z k)), rowsO V]), (98, intsO C)]) (fun k => k ≤ q.length) (fun k => q.length - k) 0 (Weak.of _ _ [some 1000000000, some 98] (by simp) (by simp) ?_ ?_) (by omega) fun k hk Q5 hn5 hr5 he5 => ?_
  · simp -implicitDefEqProofs only [ints, rows, Nat.reduceBEq, wkR, Nat.reduceEqDiff, ↓reduceIte, wrR, nodes, evT]
  · refine ⟨⟨_, rfl, ?_⟩, rfl, ⟨_, rfl, .refl _⟩, rfl, trivial⟩
    rw [mix_zero, mix_zero, set_same hr, set_same hz]; exact .refl _
  rcases Nat.lt_or_ge k q.length with h9 | h9
  · obtain ⟨y, hy⟩ : ∃ y, q[k]? = some y := ⟨_, List.getElem?_eq_getElem h9⟩
    obtain ⟨v, hv⟩ : ∃ v, C[k]? = some v := ⟨_, List.getElem?_eq_getElem (by omega)⟩
    obtain ⟨x0, hx0⟩ : ∃ x0, r[k]? = some x0 := ⟨_, List.getElem?_eq_getElem (by omega)⟩
    obtain ⟨x1, hx1⟩ : ∃ x1, z[k]? = some x1 := ⟨_, List.getElem?_eq_getElem (by omega)⟩
    have hyb := w3 y (List.mem_of_getElem? hy)
    have hvb := hcb v (List.mem_of_getElem? hv)
    have hb0 := hrb x0 (List.mem_of_getElem? hx0)
    have hb1 := hzb x1 (List.mem_of_getElem? hx1)
    have hwy : 0 ≤ y * w ∧ y * w ≤ 60 * 12960000 := ⟨Int.mul_nonneg hyb.1 hwb.1, Int.mul_le_mul hyb.2 hwb.2 hwb.1 (by decide)⟩
    have hnr1 : nr[k]? = some (x0 + (60 * v - M)) := by rw [hRd]; exact updR_get hx0 hv
    have hnz1 : nz[k]? = some (x1 + y * w) := by rw [hSd, Int.mul_comm y w]; exact updW_get hx1 hy
    have hg1 : (mixL nr r k)[k]? = some x0 := by rw [mix_get hnl (by omega)]; exact hx0
    have hg2 : (mixL nz z k)[k]? = some x1 := by rw [mix_get hnz (by omega)]; exact hx1
    have hl1 : (mixL nr r k).length = r.length := mix_length hnl (by omega)
    have hl2 : (mixL nz z k).length = z.length := mix_length hnz (by omega)
    have hc1 : (List.map intsO (R.set i (mixL nr r k)))[i]? = some (intsO (mixL nr r k)) := by rw [List.getElem?_map, List.getElem?_set_self hiR]; rfl
    have hc2 : (List.map intsO (Z.set i (mixL nz z k)))[i]? = some (intsO (mixL nz z k)) := by rw [List.getElem?_map, List.getElem?_set_self hiZ]; rfl
    have hc3 : ((List.map intsO (R.set i (mixL nr r k))).set i T.any)[i]? = some T.any := List.getElem?_set_self (by rw [List.length_map, List.length_set]; exact hiR)
    have hc4 : ((List.map intsO (Z.set i (mixL nz z k))).set i T.any)[i]? = some T.any := List.getElem?_set_self (by rw [List.length_map, List.length_set]; exact hiZ)
    simp -implicitDefEqProofs only [go_sem, evR, ints, rows, rat, rats, nodes, rowsO, intsO, evT, hy, decide_eq_true (show (k : Int) < (q.length : Int) by omega), opR, Nat.reduceBEq]
    repeat (first | refine ⟨by omega, ?_⟩ | refine ⟨by rw [nd_len]; omega, ?_⟩)
    refine ⟨_, Weak.trans (Weak.open 1000000000 3 501 rfl rfl rfl (by decide) rfl) (Weak.open 501 i 502 rfl hc1 rfl (by decide) rfl), ?_⟩
    simp -implicitDefEqProofs only [go_sem, evR, ints, rows, rat, rats, rowsO, intsO, hg1, hc1, hc3, hl1, hv, List.length_set, opR, Nat.reduceBEq]
    repeat (first | refine ⟨by omega, ?_⟩ | refine ⟨by rw [nd_len]; omega, ?_⟩)
    refine ⟨_, Weak.trans (Weak.close1 501 i 502 rfl rfl (by decide) hc3) (Weak.trans (Weak.close1 1000000000 3 501 rfl rfl (by decide) rfl) (Weak.trans (Weak.open 1000000000 5 503 rfl rfl rfl (by decide) rfl) (Weak.open 503 i 504 rfl hc2 rfl (by decide) rfl))), ?_⟩
    simp -implicitDefEqProofs only [go_sem, evR, ints, rows, rat, rats, rowsO, intsO, hg2, hc2, hc4, hl2, hv, List.length_set, opR, Nat.reduceBEq]
    repeat (first | refine ⟨by omega, ?_⟩ | refine ⟨by rw [nd_len]; omega, ?_⟩)
    have wA : IntKind.i64.wrap (60 * v) = 60 * v := wrap64 (by omega) (by omega)
    have wB : IntKind.i64.wrap (60 * v - M) = 60 * v - M := wrap64 (by omega) (by omega)
    have wC : IntKind.i64.wrap (x0 + (60 * v - M)) = x0 + (60 * v - M) := wrap64 (by omega) (by omega)
    have wD : IntKind.i64.wrap (y * w) = y * w := wrap64 (by omega) (by omega)
    have wE : IntKind.i64.wrap (x1 + y * w) = x1 + y * w := wrap64 (by omega) (by omega)
    refine hn5 _ (k + 1) (Weak.trans (Weak.close1 503 i 504 rfl rfl (by decide) hc4) (Weak.trans (Weak.close1 1000000000 5 503 rfl rfl (by decide) rfl) (Weak.of _ _ [some 1000000000, some 98] (by simp) (by simp) ?_ ?_))) (by omega) (by omega)
    · simp -implicitDefEqProofs only [ints, rows, Nat.reduceBEq, wkR, Nat.reduceEqDiff, ↓reduceIte, wrR, nodes, evT, next64 h9 (show q.length ≤ 1000000000000 by omega)]
    · refine ⟨⟨_, rfl, ?_⟩, rfl, ⟨_, rfl, .refl _⟩, rfl, trivial⟩
      rw [← mix_set hnl hnr1, ← mix_set hnz hnz1]
      simp only [rowsO, intsO, List.map_set, List.set_set, wA, wB, wC, wD, wE, nodes, rows]
      exact .refl _
  · have hkq : k = q.length := by omega
    have m1 : mixL nr r k = nr := by rw [show k = r.length by omega]; exact mix_all hnl
    have m2 : mixL nz z k = nz := by rw [show k = z.length by omega]; exact mix_all hnz
    rw [m1, m2]
    simp -implicitDefEqProofs only [go_sem, evR, ints, rows, rat, rats, nodes, rowsO, intsO, evT, decide_eq_false (show ¬ (k : Int) < (q.length : Int) by omega), opR, Nat.reduceBEq]
    refine he5 _ _ ?_
    simp -implicitDefEqProofs only [go_sem, evR, ints, rows, rat, rats, rowsO, opR, Nat.reduceBEq]
set_option maxRecDepth 20000 in
set_option maxHeartbeats 2000000 in
theorem impl_update1 {g : Gm} (hg : isGameB g = true) {s t : List (List Int)} (hs : partsOK g s 0) (ht : partsOK g t 1) {R Z U V : List (List Int)} {B : Int} (hR : okM g 1 B R) (hZ : okM g 1 B Z) (hB : B ≤ 30000000000000000) {i : Nat} (hi : i < (sets g 1).length) :
    Fun Try.prog 210 [.box [nodes g.nd, rows g.w, rows g.v, rowsO U, rowsO R, rowsO V, rowsO Z]] [.own 1000000000, .t (evT g s t), .t (.i 1), .t (.i i), .t (.i (setN g 1 i)), .t (.i (setC g 1 i))] fun o q => o = [.box [nodes g.nd, rows g.w, rows g.v, rowsO U, rowsO (R.set i (rowR g s t 1 R i)), rowsO V, rowsO (Z.set i (rowS g s t 1 Z i))]] ∧ q = .tup [] := by
  obtain ⟨p1, p2, p3, p4, p5⟩ := isGameB_parts hg
  obtain ⟨t1, t2, t3, t4⟩ := isTreeB_spec p1
  obtain ⟨a1, a2, a3, a4, a5, a6⟩ := set_parts hi
  obtain ⟨r, hr, hr', hrl, hrb⟩ := okM_get hR hi
  obtain ⟨z, hz, hz', hzl, hzb⟩ := okM_get hZ hi
  obtain ⟨w1, w2, w3, w4⟩ := mine_row hg ((.inr rfl) : (1 : Int) = 0 ∨ (1 : Int) = 1) (ot_ok hs ht (.inr rfl)).1 hi
  obtain ⟨f1, f2⟩ := rowR_ok hg hs ht (.inr rfl) hR hi
  obtain ⟨f3, f4⟩ := rowS_ok hg hs ht (.inr rfl) hZ hi
  have hmw : wayP g (mineOf 1 s t) 1 (setC g 1 i) (setN g 1 i) = wayP g (mineOf 1 s t) 1 (if (1 : Int) = 0 then setC g 1 i else setC g 1 i) (setN g 1 i) := by split <;> rfl
  have hRd : rowR g s t 1 R i = updR r (cnts g s t 1 (setN g 1 i) (setC g 1 i)) (meanA ((mineOf 1 s t).getD i []) (cnts g s t 1 (setN g 1 i) (setC g 1 i))) := by rw [rowR, hr']
  have hSd : rowS g s t 1 Z i = updW z ((mineOf 1 s t).getD i []) (wayP g (mineOf 1 s t) 1 (setC g 1 i) (setN g 1 i)) := by rw [rowS, hz']
  generalize hqq : (mineOf 1 s t).getD i [] = q at w1 w2 w3 w4 hRd hSd
  generalize setN g 1 i = n at a1 a2 a4 a5 hRd hSd hmw ⊢
  generalize setC g 1 i = c at a1 a3 hRd hSd hmw ⊢
  have hn := a2
  have hc := a3
  have h2 : (g.nd.getD n nd0).p ≠ 2 := by omega
  obtain ⟨e1, e2, e3⟩ := below_spec hg hn h2
  have hpk := pwrK_bound hg hn h2
  have hpa := pwrK_all hg hn h2
  obtain ⟨x, hx⟩ : ∃ x, g.nd[n]? = some x := ⟨_, List.getElem?_eq_getElem hn⟩
  have hxd : g.nd.getD n nd0 = x := by rw [List.getD_eq_getElem?_getD, hx]; rfl
  have hxl := (ndOK_fields (t2 _ _ hx)).2.2.2.2.2
  have hch := ndOK_child (t2 n _ hx)
  have hcvl := cntW_length g s t 1 n c
  have hcvg : ∀ (k m : Nat) (y : Int), x.ch[k]? = some y → (cntW g s t 1 n c m)[k]? = some (cntN g s t 1 n c y.toNat m) := fun k m y h => cntW_get (by rw [hxd]; exact h)
  have hcv0 := cntW_zero g s t 1 n c
  have hcvA : cntW g s t 1 n c g.w.length = cnts g s t 1 n c := rfl
  rw [hxd] at e3 a5 hcv0 hpa hpk hcvl
  have hcb := cnts_abs hg hs ht ((.inr rfl) : (1 : Int) = 0 ∨ (1 : Int) = 1) hn h2 hc
  have hcl := cnts_length g s t 1 n c
  rw [hxd] at hcl
  refine fun___impl_regretRun__update_h (by simp) ?_
  simp -implicitDefEqProofs only [go_sem, evR, ints, rows, rat, rats, c___impl_regretRun__update_h, nodes, rowsO, nd_get4 hx, opR, Nat.reduceBEq]
  repeat (first | refine ⟨by omega, ?_⟩ | refine ⟨by rw [nd_len]; omega, ?_⟩)
  refine SemC.loopR (σ := Nat) (fun k => St.of [(0, .own 1000000000), (1, .t (evT g s t)), (2, .t (.i 1)), (3, .t (.i i)), (4, .t (.i n)), (5, .t (.i c)), (12, .t (ints x.ch)), (13, .t (.i (pwrK g.nd x.ch k))), (41, .t (ints x.ch)), (42, .t (.i x.ch.length)), (43, .t (.i k))] [(1000000000, .box [nodes g.nd, rows g.w, rows g.v, rowsO U, rowsO R, rowsO V, rowsO Z])]) (fun k => k ≤ x.ch.length) (fun k => x.ch.length - k) 0 (Weak.of _ _ [some 1000000000] (by simp) (by simp) ?_ ?_) (by omega) fun k hk Q1 hn1 hr1 he1 => ?_
  · simp -implicitDefEqProofs only [ints, rows, Nat.reduceBEq, wkR, Nat.reduceEqDiff, ↓reduceIte, wrR, nodes, evT, show pwrK g.nd x.ch 0 = 0 from rfl]
  · exact ⟨⟨_, rfl, .refl _⟩, rfl, trivial⟩
  rcases Nat.lt_or_ge k x.ch.length with h9 | h9
  · obtain ⟨y, hy⟩ : ∃ y, x.ch[k]? = some y := ⟨_, List.getElem?_eq_getElem h9⟩
    obtain ⟨y0, y1, y2⟩ := e3 y (List.mem_of_getElem? hy)
    simp -implicitDefEqProofs only [go_sem, evR, ints, rows, rat, rats, nodes, rowsO, evT, hy, decide_eq_true (show (k : Int) < (x.ch.length : Int) by omega), opR, Nat.reduceBEq]
    repeat (first | refine ⟨by omega, ?_⟩ | refine ⟨by rw [nd_len]; omega, ?_⟩)
    have hd := dep_t (impl_depthFrom_ok t2 (by omega) g.nd.length y.toNat (by omega) y1 (by omega))
    rw [show ((y.toNat : Nat) : Int) = y by omega] at hd
    refine CallW.pure hd [] rfl Try.call164 ?_ (by first | trivial | simp [T.noSh, T.noShL, rat]) rfl ?_
    · simp -implicitDefEqProofs only [agR, Nat.reduceLeDiff, Nat.reduceSub, vaR, go_sem, ints, rows, rat, rats, ratsO, rtR, intsO, rowsO]
    simp -implicitDefEqProofs only [go_sem, evR, ints, rows, rat, rats]
    refine hn1 _ (k + 1) (Weak.of _ _ [some 1000000000] (by simp) (by simp) ?_ ?_) (by omega) (by omega)
    · simp -implicitDefEqProofs only [ints, rows, Nat.reduceBEq, wkR, Nat.reduceEqDiff, ↓reduceIte, wrR, nodes, evT, next64 h9 (show x.ch.length ≤ 1000000000000 by omega), pwrK_succ hy]
    · exact ⟨⟨_, rfl, .refl _⟩, rfl, trivial⟩
  have hkl : k = x.ch.length := by omega
  subst hkl
  rw [hpa]
  simp -implicitDefEqProofs only [go_sem, evR, ints, rows, rat, rats, nodes, rowsO, evT, decide_eq_false (show ¬ (x.ch.length : Int) < (x.ch.length : Int) by omega), opR, Nat.reduceBEq]
  refine he1 _ _ ?_
  simp -implicitDefEqProofs only [go_sem, evR, ints, rows, rat, rats, made_one, opR, Nat.reduceBEq]
  repeat (first | refine ⟨by omega, ?_⟩ | refine ⟨by rw [nd_len]; omega, ?_⟩)
  refine SemC.loopR (σ := Nat) (fun o => St.of [(0, .own 1000000000), (1, .t (evT g s t)), (2, .t (.i 1)), (3, .t (.i i)), (4, .t (.i n)), (5, .t (.i c)), (12, .t (ints x.ch)), (13, .t (.i (belowN g n))), (16, .own 98), (65, .t (.i g.w.length)), (66, .t (.i o))] [(1000000000, .box [nodes g.nd, rows g.w, rows g.v, rowsO U, rowsO R, rowsO V, rowsO Z]), (98, intsO (cntW g s t 1 n c o))]) (fun o => o ≤ g.w.length) (fun o => g.w.length - o) 0 (Weak.of _ _ [some 1000000000, some 59] (by simp) (by simp) ?_ ?_) (by omega) fun o ho Q2 hn2 hr2 he2 => ?_
  · simp -implicitDefEqProofs only [ints, rows, Nat.reduceBEq, wkR, Nat.reduceEqDiff, ↓reduceIte, wrR, nodes, evT]
  · refine ⟨⟨_, rfl, .refl _⟩, rfl, ⟨_, rfl, ?_⟩, rfl, trivial⟩
    rw [hcv0, intsO, List.map_replicate]; exact .refl _
  rcases Nat.lt_or_ge o g.w.length with h8 | h8
  · obtain ⟨rw0, zw, hr0, hzw, hz0, hz9⟩ := game_w hg h8 hc
    have hrwl : rw0.length = g.w.length := ((matK_iff.1 p3).2 rw0 (List.mem_of_getElem? hr0)).1
    have hwz : wAt g 1 c o = zw := by
      unfold wAt
      simp only [List.getD_eq_getElem?_getD, hr0, hzw, Option.getD_some, show ((1 : Int) = 0) = False by simp, if_false]
    have hot := (ot_ok hs ht ((.inr rfl) : (1 : Int) = 0 ∨ (1 : Int) = 1)).2
    have hr1' := rchW_abs (c := c) hg hs ht ((.inr rfl) : (1 : Int) = 0 ∨ (1 : Int) = 1) hn h8
    have hpw := pw_le4 (p := (wayL g.nd n).length) (by omega)
    have hcall := impl_wayProduct_ok hg hs ht ((.inl rfl) : (0 : Int) = 0 ∨ (0 : Int) = 1) (n := n) (a := o) (b := c) hn (by omega) (by omega)
    rw [show (if (0 : Int) = 0 then o else c) = o from rfl] at hcall
    have hrw : (-1) * zw * wayP g (mineOf 0 s t) 0 o n = rchW g s t 1 n c o := by rw [rchW, hwz]; rfl
    simp -implicitDefEqProofs only [go_sem, evR, ints, rows, rat, rats, nodes, rowsO, intsO, evT, hr0, hzw, decide_eq_true (show (o : Int) < (g.w.length : Int) by omega), show ((0 : Int) == 1) = false from rfl, show ((1 : Int) == 1) = true from rfl, show IntKind.i64.wrap (1 - 0) = 1 from rfl, show IntKind.i64.wrap (1 - 1) = 0 from rfl, opR, Nat.reduceBEq]
    repeat (first | refine ⟨by omega, ?_⟩ | refine ⟨by rw [nd_len]; omega, ?_⟩)
    refine CallH.ref hcall [] [] rfl Try.call226 (by simp) ?_ (by simp) (fun e R' hR => ?_) (.inl rfl) ?_
    · simp -implicitDefEqProofs only [srR, Nat.reduceEqDiff, ↓reduceIte, ints, rows, intsO, rowsO]
    · simp -implicitDefEqProofs only [agR, Nat.reduceLeDiff, Nat.reduceSub, vaR, go_sem, ints, rows, rat, rats, ratsO, rtR, intsO, rowsO]
    simp -implicitDefEqProofs only [clR, Nat.reduceLeDiff, go_sem, evR, rat, wrap64 (n := (-1) * zw) (by omega) (by omega), hrw, wrap64 (n := rchW g s t 1 n c o) (by omega) (by omega)]
    refine ⟨⟨fun h5 => ?_, fun h5 => ?_⟩, frameOK.refl _ _ _⟩
    · have h5 : rchW g s t 1 n c o = 0 := by simpa using h5
      refine hn2 _ (o + 1) (Weak.of _ _ [some 1000000000, some 98] (by simp) (by simp) ?_ ?_) (by omega) (by omega)
      · simp -implicitDefEqProofs only [ints, rows, Nat.reduceBEq, wkR, Nat.reduceEqDiff, ↓reduceIte, wrR, nodes, evT, next64 h8 (by omega)]
      · refine ⟨⟨_, rfl, .refl _⟩, rfl, ⟨_, rfl, ?_⟩, rfl, trivial⟩
        rw [cntW_skip h5]; exact .refl _
    · refine SemC.loopR (σ := Nat) (fun k => St.of [(0, .own 1000000000), (1, .t (evT g s t)), (2, .t (.i 1)), (3, .t (.i i)), (4, .t (.i n)), (5, .t (.i c)), (12, .t (ints x.ch)), (13, .t (.i (belowN g n))), (16, .own 98), (18, .t (.i o)), (19, .t (.i c)), (21, .t (.i (rchW g s t 1 n c o))), (65, .t (.i g.w.length)), (66, .t (.i o)), (98, .t (ints x.ch)), (99, .t (.i x.ch.length)), (100, .t (.i k))] [(1000000000, .box [nodes g.nd, rows g.w, rows g.v, rowsO U, rowsO R, rowsO V, rowsO Z]), (98, intsO (mixL (cntW g s t 1 n c (o + 1)) (cntW g s t 1 n c o) k))]) (fun k => k ≤ x.ch.length) (fun k => x.ch.length - k) 0 (Weak.of _ _ [some 1000000000, some 98] (by simp) (by simp) ?_ ?_) (by omega) fun k hk Q3 hn3 hr3 he3 => ?_
      · simp -implicitDefEqProofs only [ints, rows, Nat.reduceBEq, wkR, Nat.reduceEqDiff, ↓reduceIte, wrR, nodes, evT]
      · refine ⟨⟨_, rfl, .refl _⟩, rfl, ⟨_, rfl, ?_⟩, rfl, trivial⟩
        rw [mix_zero]; exact .refl _
      have hcl1 : (cntW g s t 1 n c (o + 1)).length = (cntW g s t 1 n c o).length := by rw [cntW_length, cntW_length]
      have hcl0 : (cntW g s t 1 n c o).length = x.ch.length := by rw [cntW_length, hxd]
      rcases Nat.lt_or_ge k x.ch.length with h7 | h7
      · obtain ⟨y, hy⟩ : ∃ y, x.ch[k]? = some y := ⟨_, List.getElem?_eq_getElem h7⟩
        obtain ⟨y0, y1, y2⟩ := e3 y (List.mem_of_getElem? hy)
        have hym : y ∈ (g.nd.getD n nd0).ch := by rw [hxd]; exact List.mem_of_getElem? hy
        have hsu := cntN_succ g s t 1 n c y.toNat o
        have k1 := cntN_abs hg hs ht ((.inr rfl) : (1 : Int) = 0 ∨ (1 : Int) = 1) hn h2 hc hym (m := o) (by omega)
        have k2 := cntN_abs hg hs ht ((.inr rfl) : (1 : Int) = 0 ∨ (1 : Int) = 1) hn h2 hc hym (m := o + 1) (by omega)
        have k3 := cntF_abs hg hs ht ((.inr rfl) : (1 : Int) = 0 ∨ (1 : Int) = 1) hn h2 hc h8 hym
        have hval := value_t (impl_value_ok hg hs ht h8 hc g.nd.length y.toNat (belowN g n) (by omega) y1 y2 (by omega))
        rw [show ((y.toNat : Nat) : Int) = y by omega] at hval
        have hcf : rchW g s t 1 n c o * val g s t g.nd.length y.toNat o c (belowN g n) = cntF g s t 1 n c y.toNat o := rfl
        have hg1 : (mixL (cntW g s t 1 n c (o + 1)) (cntW g s t 1 n c o) k)[k]? = some (cntN g s t 1 n c y.toNat o) := by
          rw [mix_get hcl1 (by omega)]; exact hcvg k o y hy
        have hml : (mixL (cntW g s t 1 n c (o + 1)) (cntW g s t 1 n c o) k).length = x.ch.length := by rw [mix_length hcl1 (by omega), hcl0]
        simp -implicitDefEqProofs only [go_sem, evR, ints, rows, rat, rats, nodes, rowsO, intsO, evT, hy, hg1, hml, decide_eq_true (show (k : Int) < (x.ch.length : Int) by omega), opR, Nat.reduceBEq]
        repeat (first | refine ⟨by omega, ?_⟩ | refine ⟨by rw [nd_len]; omega, ?_⟩)
        refine CallH.ref hval [] [] rfl Try.call180 (by simp) ?_ (by simp) (fun e R' hR => ?_) (.inl rfl) ?_
        · simp -implicitDefEqProofs only [srR, Nat.reduceEqDiff, ↓reduceIte, ints, rows, intsO, rowsO]
        · simp -implicitDefEqProofs only [agR, Nat.reduceLeDiff, Nat.reduceSub, vaR, go_sem, ints, rows, rat, rats, ratsO, rtR, intsO, rowsO]
        simp -implicitDefEqProofs only [clR, Nat.reduceLeDiff, go_sem, evR, rat, hml, hcf, wrap64 (n := cntF g s t 1 n c y.toNat o) (by omega) (by omega), ← hsu, wrap64 (n := cntN g s t 1 n c y.toNat (o + 1)) (by omega) (by omega)]
        refine ⟨⟨by omega, by omega, by omega, hn3 _ (k + 1) (Weak.of _ _ [some 1000000000, some 98] (by simp) (by simp) ?_ ?_) (by omega) (by omega)⟩, frameOK.refl _ _ _⟩
        · simp -implicitDefEqProofs only [ints, rows, Nat.reduceBEq, wkR, Nat.reduceEqDiff, ↓reduceIte, wrR, nodes, evT, next64 h7 (show x.ch.length ≤ 1000000000000 by omega)]
        · refine ⟨⟨_, rfl, .refl _⟩, rfl, ⟨_, rfl, ?_⟩, rfl, trivial⟩
          rw [← mix_set hcl1 (hcvg k (o + 1) y hy), intsO, List.map_set]; exact .refl _
      · have hall : mixL (cntW g s t 1 n c (o + 1)) (cntW g s t 1 n c o) k = cntW g s t 1 n c (o + 1) := by
          have := mix_all hcl1
          rw [hcl0] at this
          rw [show k = x.ch.length by omega]; exact this
        rw [hall]
        simp -implicitDefEqProofs only [go_sem, evR, ints, rows, rat, rats, nodes, rowsO, intsO, evT, decide_eq_false (show ¬ (k : Int) < (x.ch.length : Int) by omega), opR, Nat.reduceBEq]
        refine he3 _ _ ?_
        simp -implicitDefEqProofs only [go_sem, evR, ints, rows, rat, rats]
        refine hn2 _ (o + 1) (Weak.of _ _ [some 1000000000, some 98] (by simp) (by simp) ?_ ?_) (by omega) (by omega)
        · simp -implicitDefEqProofs only [ints, rows, Nat.reduceBEq, wkR, Nat.reduceEqDiff, ↓reduceIte, wrR, nodes, evT, next64 h8 (by omega)]
        · exact ⟨⟨_, rfl, .refl _⟩, rfl, ⟨_, rfl, .refl _⟩, rfl, trivial⟩
  have hol : o = g.w.length := by omega
  subst hol
  rw [hcvA]
  simp -implicitDefEqProofs only [go_sem, evR, ints, rows, rat, rats, nodes, rowsO, intsO, evT, decide_eq_false (show ¬ (g.w.length : Int) < (g.w.length : Int) by omega), opR, Nat.reduceBEq]
  refine he2 _ _ ?_
  have hqi : (mineOf 1 s t)[i]? = some q := w1
  have hqs : t[i]? = some q := hqi
  have hqsl := (List.getElem?_eq_some_iff.1 hqs).1
  simp -implicitDefEqProofs only [go_sem, evR, ints, rows, rat, rats, evT, hqs, opR, Nat.reduceBEq]
  repeat (first | refine ⟨by omega, ?_⟩ | refine ⟨by rw [nd_len]; omega, ?_⟩)
  refine SemC.loopR (σ := Nat) (fun k => St.of [(0, .own 1000000000), (1, .t (evT g s t)), (2, .t (.i 1)), (3, .t (.i i)), (4, .t (.i n)), (5, .t (.i c)), (16, .own 98), (24, .t (ints q)), (25, .t (.i (meanP q (cnts g s t 1 n c) k))), (130, .t (ints q)), (131, .t (.i q.length)), (132, .t (.i k))] [(1000000000, .box [nodes g.nd, rows g.w, rows g.v, rowsO U, rowsO R, rowsO V, rowsO Z]), (98, intsO (cnts g s t 1 n c))]) (fun k => k ≤ q.length) (fun k => q.length - k) 0 (Weak.of _ _ [some 1000000000, some 98] (by simp) (by simp) ?_ ?_) (by omega) fun k hk Q4 hn4 hr4 he4 => ?_
  · simp -implicitDefEqProofs only [ints, rows, Nat.reduceBEq, wkR, Nat.reduceEqDiff, ↓reduceIte, wrR, nodes, evT, meanP_zero]
  · exact ⟨⟨_, rfl, .refl _⟩, rfl, ⟨_, rfl, .refl _⟩, rfl, trivial⟩
  rcases Nat.lt_or_ge k q.length with h9 | h9
  · obtain ⟨y, hy⟩ : ∃ y, q[k]? = some y := ⟨_, List.getElem?_eq_getElem h9⟩
    obtain ⟨v, hv⟩ : ∃ v, (cnts g s t 1 n c)[k]? = some v := ⟨_, List.getElem?_eq_getElem (by omega)⟩
    have hyb := w3 y (List.mem_of_getElem? hy)
    have hvb := hcb v (List.mem_of_getElem? hv)
    obtain ⟨m1, m2⟩ := mul_abs hyb.1 hvb.1 hvb.2
    have hms := meanP_succ hy hv
    have hm1 := meanP_abs w3 hcb k
    have hm2 := meanP_abs w3 hcb (k + 1)
    simp -implicitDefEqProofs only [go_sem, evR, ints, rows, rat, rats, nodes, rowsO, intsO, evT, hy, hv, decide_eq_true (show (k : Int) < (q.length : Int) by omega), opR, Nat.reduceBEq]
    repeat (first | refine ⟨by omega, ?_⟩ | refine ⟨by rw [nd_len]; omega, ?_⟩)
    refine hn4 _ (k + 1) (Weak.of _ _ [some 1000000000, some 98] (by simp) (by simp) ?_ ?_) (by omega) (by omega)
    · simp -implicitDefEqProofs only [ints, rows, Nat.reduceBEq, wkR, Nat.reduceEqDiff, ↓reduceIte, wrR, nodes, evT, next64 h9 (show q.length ≤ 1000000000000 by omega), wrap64 (n := y * v) (by omega) (by omega), ← hms, wrap64 (n := meanP q (cnts g s t 1 n c) (k + 1)) (by omega) (by omega)]
    · exact ⟨⟨_, rfl, .refl _⟩, rfl, ⟨_, rfl, .refl _⟩, rfl, trivial⟩
  have hkq : k = (cnts g s t 1 n c).length := by omega
  subst hkq
  simp -implicitDefEqProofs only [go_sem, evR, ints, rows, rat, rats, nodes, rowsO, intsO, evT, decide_eq_false (show ¬ ((cnts g s t 1 n c).length : Int) < (q.length : Int) by omega), opR, Nat.reduceBEq]
  refine he4 _ _ ?_
  simp -implicitDefEqProofs only [go_sem, evR, ints, rows, rat, rats, evT]
  have hway := impl_wayProduct_ok hg hs ht ((.inr rfl) : (1 : Int) = 0 ∨ (1 : Int) = 1) (n := n) (a := c) (b := c) hn hc hc
  rw [← hmw] at hway
  have hwb := own_bound hg (ot_ok hs ht ((.inr rfl) : (1 : Int) = 0 ∨ (1 : Int) = 1)).1 hc hn h2
  have hMb := meanP_abs w3 hcb (cnts g s t 1 n c).length
  have hMd : meanA q (cnts g s t 1 n c) = meanP q (cnts g s t 1 n c) (cnts g s t 1 n c).length := rfl
  refine CallW.pure hway [] rfl Try.call226 ?_ (by first | trivial | simp [T.noSh, T.noShL, rat]) rfl ?_
  · simp -implicitDefEqProofs only [agR, Nat.reduceLeDiff, Nat.reduceSub, vaR, go_sem, ints, rows, rat, rats, ratsO, rtR, intsO, rowsO]
  simp -implicitDefEqProofs only [go_sem, evR, ints, rows, rat, rats]
  generalize wayP g (mineOf 1 s t) 1 c n = w at hwb hSd ⊢
  rw [← hMd]
  rw [← hMd] at hMb
  generalize meanA q (cnts g s t 1 n c) = M at hMb hRd ⊢
  generalize cnts g s t 1 n c = C at hcb hcl hMb hRd hqsl ⊢
  generalize rowR g s t 1 R i = nr at f1 f2 hRd ⊢
  generalize rowS g s t 1 Z i = nz at f3 f4 hSd ⊢
  have hnl : nr.length = r.length := by omega
  have hnz : nz.length = z.length := by omega
  have hiR : i < R.length := (List.getElem?_eq_some_iff.1 hr).1
  have hiZ : i < Z.length := (List.getElem?_eq_some_iff.1 hz).1
  refine SemC.loopR (σ := Nat) (fun k => St.of [(0, .own 1000000000), (1, .t (evT g s t)), (2, .t (.i 1)), (3, .t (.i i)), (4, .t (.i n)), (5, .t (.i c)), (16, .own 98), (25, .t (.i M)), (28, .t (.i w)), (152, .t (ints q)), (153, .t (.i q.length)), (154, .t (.i k))] [(1000000000, .box [nodes g.nd, rows g.w, rows g.v, rowsO U, rowsO (R.set i (mixL nr r k)), rowsO V, rowsO (Z.set i (mixL nz z k))]), (98, intsO C)]) (fun k => k ≤ q.length) (fun k => q.length - k) 0 (Weak.of _ _ [some 1000000000, some 98] (by simp) (by simp) ?_ ?_) (by omega) fun k hk Q5 hn5 hr5 he5 => ?_
  · simp -implicitDefEqProofs only [ints, rows, Nat.reduceBEq, wkR, Nat.reduceEqDiff, ↓reduceIte, wrR, nodes, evT]
  · refine ⟨⟨_, rfl, ?_⟩, rfl, ⟨_, rfl, .refl _⟩, rfl, trivial⟩
    rw [mix_zero, mix_zero, set_same hr, set_same hz]; exact .refl _
  rcases Nat.lt_or_ge k q.length with h9 | h9
  · obtain ⟨y, hy⟩ : ∃ y, q[k]? = some y := ⟨_, List.getElem?_eq_getElem h9⟩
    obtain ⟨v, hv⟩ : ∃ v, C[k]? = some v := ⟨_, List.getElem?_eq_getElem (by omega)⟩
    obtain ⟨x0, hx0⟩ : ∃ x0, r[k]? = some x0 := ⟨_, List.getElem?_eq_getElem (by omega)⟩
    obtain ⟨x1, hx1⟩ : ∃ x1, z[k]? = some x1 := ⟨_, List.getElem?_eq_getElem (by omega)⟩
    have hyb := w3 y (List.mem_of_getElem? hy)
    have hvb := hcb v (List.mem_of_getElem? hv)
    have hb0 := hrb x0 (List.mem_of_getElem? hx0)
    have hb1 := hzb x1 (List.mem_of_getElem? hx1)
    have hwy : 0 ≤ y * w ∧ y * w ≤ 60 * 12960000 := ⟨Int.mul_nonneg hyb.1 hwb.1, Int.mul_le_mul hyb.2 hwb.2 hwb.1 (by decide)⟩
    have hnr1 : nr[k]? = some (x0 + (60 * v - M)) := by rw [hRd]; exact updR_get hx0 hv
    have hnz1 : nz[k]? = some (x1 + y * w) := by rw [hSd, Int.mul_comm y w]; exact updW_get hx1 hy
    have hg1 : (mixL nr r k)[k]? = some x0 := by rw [mix_get hnl (by omega)]; exact hx0
    have hg2 : (mixL nz z k)[k]? = some x1 := by rw [mix_get hnz (by omega)]; exact hx1
    have hl1 : (mixL nr r k).length = r.length := mix_length hnl (by omega)
    have hl2 : (mixL nz z k).length = z.length := mix_length hnz (by omega)
    have hc1 : (List.map intsO (R.set i (mixL nr r k)))[i]? = some (intsO (mixL nr r k)) := by rw [List.getElem?_map, List.getElem?_set_self hiR]; rfl
    have hc2 : (List.map intsO (Z.set i (mixL nz z k)))[i]? = some (intsO (mixL nz z k)) := by rw [List.getElem?_map, List.getElem?_set_self hiZ]; rfl
    have hc3 : ((List.map intsO (R.set i (mixL nr r k))).set i T.any)[i]? = some T.any := List.getElem?_set_self (by rw [List.length_map, List.length_set]; exact hiR)
    have hc4 : ((List.map intsO (Z.set i (mixL nz z k))).set i T.any)[i]? = some T.any := List.getElem?_set_self (by rw [List.length_map, List.length_set]; exact hiZ)
    simp -implicitDefEqProofs only [go_sem, evR, ints, rows, rat, rats, nodes, rowsO, intsO, evT, hy, decide_eq_true (show (k : Int) < (q.length : Int) by omega), opR, Nat.reduceBEq]
    repeat (first | refine ⟨by omega, ?_⟩ | refine ⟨by rw [nd_len]; omega, ?_⟩)
    refine ⟨_, Weak.trans (Weak.open 1000000000 4 501 rfl rfl rfl (by decide) rfl) (Weak.open 501 i 502 rfl hc1 rfl (by decide) rfl), ?_⟩
    simp -implicitDefEqProofs only [go_sem, evR, ints, rows, rat, rats, rowsO, intsO, hg1, hc1, hc3, hl1, hv, List.length_set, opR, Nat.reduceBEq]
    repeat (first | refine ⟨by omega, ?_⟩ | refine ⟨by rw [nd_len]; omega, ?_⟩)
    refine ⟨_, Weak.trans (Weak.close1 501 i 502 rfl rfl (by decide) hc3) (Weak.trans (Weak.close1 1000000000 4 501 rfl rfl (by decide) rfl) (Weak.trans (Weak.open 1000000000 6 503 rfl rfl rfl (by decide) rfl) (Weak.open 503 i 504 rfl hc2 rfl (by decide) rfl))), ?_⟩
    simp -implicitDefEqProofs only [go_sem, evR, ints, rows, rat, rats, rowsO, intsO, hg2, hc2, hc4, hl2, hv, List.length_set, opR, Nat.reduceBEq]
    repeat (first | refine ⟨by omega, ?_⟩ | refine ⟨by rw [nd_len]; omega, ?_⟩)
    have wA : IntKind.i64.wrap (60 * v) = 60 * v := wrap64 (by omega) (by omega)
    have wB : IntKind.i64.wrap (60 * v - M) = 60 * v - M := wrap64 (by omega) (by omega)
    have wC : IntKind.i64.wrap (x0 + (60 * v - M)) = x0 + (60 * v - M) := wrap64 (by omega) (by omega)
    have wD : IntKind.i64.wrap (y * w) = y * w := wrap64 (by omega) (by omega)
    have wE : IntKind.i64.wrap (x1 + y * w) = x1 + y * w := wrap64 (by omega) (by omega)
    refine hn5 _ (k + 1) (Weak.trans (Weak.close1 503 i 504 rfl rfl (by decide) hc4) (Weak.trans (Weak.close1 1000000000 6 503 rfl rfl (by decide) rfl) (Weak.of _ _ [some 1000000000, some 98] (by simp) (by simp) ?_ ?_))) (by omega) (by omega)
    · simp -implicitDefEqProofs only [ints, rows, Nat.reduceBEq, wkR, Nat.reduceEqDiff, ↓reduceIte, wrR, nodes, evT, next64 h9 (show q.length ≤ 1000000000000 by omega)]
    · refine ⟨⟨_, rfl, ?_⟩, rfl, ⟨_, rfl, .refl _⟩, rfl, trivial⟩
      rw [← mix_set hnl hnr1, ← mix_set hnz hnz1]
      simp only [rowsO, intsO, List.map_set, List.set_set, wA, wB, wC, wD, wE, nodes, rows]
      exact .refl _
  · have hkq : k = q.length := by omega
    have m1 : mixL nr r k = nr := by rw [show k = r.length by omega]; exact mix_all hnl
    have m2 : mixL nz z k = nz := by rw [show k = z.length by omega]; exact mix_all hnz
    rw [m1, m2]
    simp -implicitDefEqProofs only [go_sem, evR, ints, rows, rat, rats, nodes, rowsO, intsO, evT, decide_eq_false (show ¬ (k : Int) < (q.length : Int) by omega), opR, Nat.reduceBEq]
    refine he5 _ _ ?_
    simp -implicitDefEqProofs only [go_sem, evR, ints, rows, rat, rats, rowsO, opR, Nat.reduceBEq]
end
end Go.Ab

/- Contracts: iterations of the program. -/
set_option linter.unusedSimpArgs false
set_option linter.unusedVariables false
namespace Go.Ab
open Go.Proofs
theorem mix_at {α : Type} {new old : List α} (h : new.length = old.length) {i : Nat} (hi : i ≤ old.length) (j : Nat) : (mixL new old i)[j]? = if j < i then new[j]? else old[j]? := by
  unfold mixL
  have hl : (new.take i).length = i := by rw [List.length_take]; omega
  split
  · rename_i hj
    rw [List.getElem?_append_left (by omega), List.getElem?_take, if_pos hj]
  · rename_i hj
    rw [List.getElem?_append_right (by omega), hl, List.getElem?_drop]
    congr 1; omega
theorem okM_le {g : Gm} {pl B B' : Int} {m : List (List Int)} (h : okM g pl B m) (hB : B ≤ B') : okM g pl B' m := ⟨h.1, fun i r hr => ⟨(h.2 i r hr).1, fun x hx => by have := (h.2 i r hr).2 x hx; omega⟩⟩
theorem okM_mix {g : Gm} {pl B : Int} {new old : List (List Int)} (h1 : okM g pl B new) (h2 : okM g pl B old) {i : Nat} (hi : i ≤ (sets g pl).length) : okM g pl B (mixL new old i) := by
  have hl : new.length = old.length := by rw [h1.1, h2.1]
  refine ⟨by rw [mix_length hl (by rw [h2.1]; exact hi), h2.1], fun j r hr => ?_⟩
  rw [mix_at hl (by rw [h2.1]; exact hi)] at hr
  split at hr
  · exact h1.2 j r hr
  · exact h2.2 j r hr
theorem mix_getD {new old : List (List Int)} (h : new.length = old.length) {i : Nat} (hi : i ≤ old.length) : (mixL new old i).getD i [] = old.getD i [] := by
  rw [List.getD_eq_getElem?_getD, List.getD_eq_getElem?_getD, mix_at h hi, if_neg (by omega)]
theorem rowR_mix (g : Gm) (s t : List (List Int)) (pl : Int) {new old : List (List Int)} (h : new.length = old.length) {i : Nat} (hi : i ≤ old.length) : rowR g s t pl (mixL new old i) i = rowR g s t pl old i := by rw [rowR, rowR, mix_getD h hi]
theorem rowS_mix (g : Gm) (s t : List (List Int)) (pl : Int) {new old : List (List Int)} (h : new.length = old.length) {i : Nat} (hi : i ≤ old.length) : rowS g s t pl (mixL new old i) i = rowS g s t pl old i := by rw [rowS, rowS, mix_getD h hi]
theorem nextRR_length (g : Gm) (s t : List (List Int)) (pl : Int) (R : List (List Int)) : (nextRR g s t pl R).length = (sets g pl).length := by simp [nextRR]
theorem nextSS_length (g : Gm) (s t : List (List Int)) (pl : Int) (R : List (List Int)) : (nextSS g s t pl R).length = (sets g pl).length := by simp [nextSS]
theorem nextRR_get {g : Gm} {s t : List (List Int)} {pl : Int} {R : List (List Int)} {i : Nat} (h : i < (sets g pl).length) : (nextRR g s t pl R)[i]? = some (rowR g s t pl R i) := by simp [nextRR, h]
theorem nextSS_get {g : Gm} {s t : List (List Int)} {pl : Int} {R : List (List Int)} {i : Nat} (h : i < (sets g pl).length) : (nextSS g s t pl R)[i]? = some (rowS g s t pl R i) := by simp [nextSS, h]
section
attribute [-go_sem] load1C load1V fldC lenC idxC loadNV nilCheckW
theorem impl_current_ok (g : Gm) (x : RS) {B : Int} (h0 : runL B x.r0) (h1 : runL B x.r1) (hB : B < 9223372036854775808) : Fun Try.prog 112 [] [.t (.pin [.sh 5 (chunk nodeC g.nd), .sh 1 (g.w.map ints), .sh 1 (g.v.map ints), .sh 1 (x.r0.map ints), .sh 1 (x.r1.map ints), .sh 1 (x.s0.map ints), .sh 1 (x.s1.map ints)] 0)] fun o r => o = [] ∧ r = .tup [.agg [.i 0, .arr 1 ((stM x.r0).map intsO)], .agg [.i 1, .arr 1 ((stM x.r1).map intsO)]] := by
  refine fun___impl_regretRun__current (by simp) ?_
  simp -implicitDefEqProofs only [go_sem, evR, ints, rows, rat, rats, c___impl_regretRun__current, opR, Nat.reduceBEq]
  repeat (first | refine ⟨by omega, ?_⟩ | refine ⟨by rw [nd_len]; omega, ?_⟩)
  refine CallC.res (impl_strategyOf_ok 0 x.r0 h0 hB) [] rfl Try.call174 (fun e R' hR => ?_) (.inl rfl) ?_
  · simp -implicitDefEqProofs only [agR, Nat.reduceLeDiff, Nat.reduceSub, vaR, go_sem, ints, rows, rat, rats, ratsO, rtR, intsO, rowsO]
  simp -implicitDefEqProofs only [clR, Nat.reduceLeDiff, go_sem, evR, rat, opR, Nat.reduceBEq]
  repeat (first | refine ⟨by omega, ?_⟩ | refine ⟨by rw [nd_len]; omega, ?_⟩)
  refine CallC.res (impl_strategyOf_ok 1 x.r1 h1 hB) [] rfl Try.call174 (fun e R' hR => ?_) (.inl rfl) ?_
  · simp -implicitDefEqProofs only [agR, Nat.reduceLeDiff, Nat.reduceSub, vaR, go_sem, ints, rows, rat, rats, ratsO, rtR, intsO, rowsO]
  simp -implicitDefEqProofs only [clR, Nat.reduceLeDiff, go_sem, evR, rat, opR, Nat.reduceBEq]
theorem impl_average_ok (g : Gm) (x : RS) {B : Int} (h0 : runL B x.s0) (h1 : runL B x.s1) (hB : B < 9223372036854775808) : Fun Try.prog 113 [] [.t (.pin [.sh 5 (chunk nodeC g.nd), .sh 1 (g.w.map ints), .sh 1 (g.v.map ints), .sh 1 (x.r0.map ints), .sh 1 (x.r1.map ints), .sh 1 (x.s0.map ints), .sh 1 (x.s1.map ints)] 0)] fun o r => o = [] ∧ r = .tup [.agg [.i 0, .arr 1 ((stM x.s0).map intsO)], .agg [.i 1, .arr 1 ((stM x.s1).map intsO)]] := by
  refine fun___impl_regretRun__average (by simp) ?_
  simp -implicitDefEqProofs only [go_sem, evR, ints, rows, rat, rats, c___impl_regretRun__average, opR, Nat.reduceBEq]
  repeat (first | refine ⟨by omega, ?_⟩ | refine ⟨by rw [nd_len]; omega, ?_⟩)
  refine CallC.res (impl_strategyOf_ok 0 x.s0 h0 hB) [] rfl Try.call174 (fun e R' hR => ?_) (.inl rfl) ?_
  · simp -implicitDefEqProofs only [agR, Nat.reduceLeDiff, Nat.reduceSub, vaR, go_sem, ints, rows, rat, rats, ratsO, rtR, intsO, rowsO]
  simp -implicitDefEqProofs only [clR, Nat.reduceLeDiff, go_sem, evR, rat, opR, Nat.reduceBEq]
  repeat (first | refine ⟨by omega, ?_⟩ | refine ⟨by rw [nd_len]; omega, ?_⟩)
  refine CallC.res (impl_strategyOf_ok 1 x.s1 h1 hB) [] rfl Try.call174 (fun e R' hR => ?_) (.inl rfl) ?_
  · simp -implicitDefEqProofs only [agR, Nat.reduceLeDiff, Nat.reduceSub, vaR, go_sem, ints, rows, rat, rats, ratsO, rtR, intsO, rowsO]
  simp -implicitDefEqProofs only [clR, Nat.reduceLeDiff, go_sem, evR, rat, opR, Nat.reduceBEq]
def itS (g : Gm) (s t : List (List Int)) (x : RS) : Nat → T
  | 0 => .box [nodes g.nd, rows g.w, rows g.v, rowsO x.r0, rowsO x.r1, rowsO x.s0, rowsO x.s1]
  | 1 => .box [nodes g.nd, rows g.w, rows g.v, rowsO (nextRR g s t 0 x.r0), rowsO x.r1, rowsO (nextSS g s t 0 x.s0), rowsO x.s1]
  | _ => .box [nodes g.nd, rows g.w, rows g.v, rowsO (nextRR g s t 0 x.r0), rowsO (nextRR g s t 1 x.r1), rowsO (nextSS g s t 0 x.s0), rowsO (nextSS g s t 1 x.s1)]
theorem cur_noSh (m m' : List (List Int)) : (T.tup [.agg [.i 0, .arr 1 (m.map intsO)], .agg [.i 1, .arr 1 (m'.map intsO)]]).noSh := ⟨⟨trivial, rowsO_noSh _, trivial⟩, ⟨trivial, rowsO_noSh _, trivial⟩, trivial⟩
set_option maxRecDepth 20000 in
set_option maxHeartbeats 2000000 in
theorem impl_iterate_ok (g : Gm) (hg : isGameB g = true) (x : RS) {n : Nat} (hn : n ≤ 900) (h : okRS g n x) : Fun Try.prog 171 [rsB g x] [.own 1000000000] fun o r => o = [rsB g (stepRS g x)] ∧ r = .tup [] := by
  obtain ⟨p1, p2, p3, p4, p5⟩ := isGameB_parts hg
  obtain ⟨t1, t2, t3, t4⟩ := isTreeB_spec p1
  obtain ⟨k0, k1, _, _⟩ := okRS_strats hg (by omega) h
  have k0 := partsOK_of k0
  have k1 := partsOK_of k1
  have w1 : IntKind.i64.wrap 1 = 1 := rfl
  have w2' : IntKind.i64.wrap (1 + 1) = 2 := rfl
  refine fun___impl_regretRun__iterate_h (by simp) ?_
  simp -implicitDefEqProofs only [go_sem, evR, ints, rows, rat, rats, c___impl_regretRun__iterate_h, rsB, nodes, rowsO, opR, Nat.reduceBEq]
  have hq := impl_current_ok g x (okM_runL hg (.inl rfl) h.1) (okM_runL hg (.inr rfl) h.2.1) (by omega)
  refine CallW.res hq [1000000000] rfl Try.call112 ?_ (.inr (cur_noSh _ _)) ?_
  · simp -implicitDefEqProofs only [agR, Nat.reduceLeDiff, Nat.reduceSub, vaR, go_sem, ints, rows, rat, rats, ratsO, rtR, intsO, rowsO, T.toShL.eq_1, T.toShL.eq_2, toShL_intsO]
  simp -implicitDefEqProofs only [clR, Nat.reduceLeDiff, go_sem, evR, rat, opR, Nat.reduceBEq]
  refine ⟨_, Weak.trans (Weak.share 2 rfl) (Weak.trans (Weak.share 3 rfl) (Weak.of [(0, .own 1000000000), (2, .t (.pin [.i 0, rows (stM x.r0)] 0)), (3, .t (.pin [.i 1, rows (stM x.r1)] 0))] [(1000000000, .box [nodes g.nd, rows g.w, rows g.v, rowsO x.r0, rowsO x.r1, rowsO x.s0, rowsO x.s1])] [some 1000000000] (by simp) (by simp) ?_ ?_)), ?_⟩
  · simp -implicitDefEqProofs only [ints, rows, Nat.reduceBEq, wkR, Nat.reduceEqDiff, ↓reduceIte, wrR, shareA, T.toSh, T.toShL, toShL_intsO, nodes, rowsO]
  · exact ⟨⟨_, rfl, .refl _⟩, rfl, trivial⟩
  have hE := newEv_t g (0, stM x.r0) (1, stM x.r1) hg
  have hstep : stepRS g x = ⟨nextRR g (stM x.r0) (stM x.r1) 0 x.r0, nextRR g (stM x.r0) (stM x.r1) 1 x.r1, nextSS g (stM x.r0) (stM x.r1) 0 x.s0, nextSS g (stM x.r0) (stM x.r1) 1 x.s1⟩ := rfl
  rw [hstep]
  simp only [evO, nodes, rows, intsO] at hE
  generalize stM x.r0 = s at k0 hE ⊢
  generalize stM x.r1 = t at k1 hE ⊢
  simp -implicitDefEqProofs only [go_sem, evR, ints, rows, rat, rats, nodes, rowsO, opR, Nat.reduceBEq]
  refine CallC.res hE [] rfl Try.call179 (fun e R' hR => ?_) (.inl rfl) ?_
  · simp -implicitDefEqProofs only [agR, Nat.reduceLeDiff, Nat.reduceSub, vaR, go_sem, ints, rows, rat, rats, ratsO, rtR, intsO, rowsO]
  simp -implicitDefEqProofs only [clR, Nat.reduceLeDiff, go_sem, evR, rat, opR, Nat.reduceBEq]
  refine ⟨_, Weak.share 19 rfl, ?_⟩
  refine SemC.loopR (σ := Nat) (fun q => St.of [(0, .own 1000000000), (4, .t (evT g s t)), (20, .t (.i q))] [(1000000000, itS g s t x q)]) (fun q => q ≤ 2) (fun q => 2 - q) 0 (Weak.of _ _ [some 1000000000] (by simp) (by simp) ?_ ?_) (by omega) fun q hq R hn hr he => ?_
  · simp -implicitDefEqProofs only [ints, rows, Nat.reduceBEq, wkR, Nat.reduceEqDiff, ↓reduceIte, wrR, shareA, T.toSh, T.toShL, toShL_intsO, toShL_ints, nodes, evT]
  · exact ⟨⟨_, rfl, .refl _⟩, rfl, trivial⟩
  · match q, hq with
    | 0, _ =>
      have hsl := sets_360 hg 0
      have nR := nextRR_length g s t 0 x.r0
      have nZ := nextSS_length g s t 0 x.s0
      have lR : x.r0.length = (sets g 0).length := h.1.1
      have lZ : x.s0.length = (sets g 0).length := h.2.2.1.1
      have oR : okM g 0 (n * 30000000000000 + 30000000000000) (nextRR g s t 0 x.r0) := okM_range fun i hi => rowR_ok hg k0 k1 (.inl rfl : (0 : Int) = 0 ∨ (0 : Int) = 1) h.1 hi
      have oZ : okM g 0 (n * 30000000000000 + 30000000000000) (nextSS g s t 0 x.s0) := okM_range fun i hi => rowS_ok hg k0 k1 (.inl rfl : (0 : Int) = 0 ∨ (0 : Int) = 1) h.2.2.1 hi
      simp -implicitDefEqProofs only [go_sem, evR, ints, rows, rat, rats, itS, nodes, rowsO, decide_eq_true (show (0 : Int) < 2 by omega), Int.natCast_zero, Int.cast_ofNat_Int, opR, Nat.reduceBEq]
      have hp := infoSets_t g 0 t1.2 p2.2
      simp only [rowsO] at hp
      refine CallW.res hp [] rfl Try.call152 ?_ (.inl rfl) ?_
      · simp -implicitDefEqProofs only [agR, Nat.reduceLeDiff, Nat.reduceSub, vaR, go_sem, ints, rows, rat, rats, ratsO, rtR, intsO, rowsO]
      simp -implicitDefEqProofs only [clR, Nat.reduceLeDiff, go_sem, evR, rat]
      refine SemC.loopR (σ := Nat) (fun i => St.of [(0, .own 1000000000), (4, .t (evT g s t)), (5, .t (.i 0)), (20, .t (.i 0)), (28, .t (rows (sets g 0))), (29, .t (.i (sets g 0).length)), (30, .t (.i i))] [(1000000000, .box [nodes g.nd, rows g.w, rows g.v, rowsO (mixL (nextRR g s t 0 x.r0) x.r0 i), rowsO x.r1, rowsO (mixL (nextSS g s t 0 x.s0) x.s0 i), rowsO x.s1])]) (fun i => i ≤ (sets g 0).length) (fun i => (sets g 0).length - i) 0 (Weak.trans (Weak.share 28 rfl) (Weak.of _ _ [some 1000000000] (by simp) (by simp) ?_ ?_)) (by simp) fun i hi R2 hn2 hr2 he2 => ?_
      · simp -implicitDefEqProofs only [ints, rows, Nat.reduceBEq, wkR, Nat.reduceEqDiff, ↓reduceIte, wrR, shareA, T.toSh, toShL_intsO, nodes, evT]
      · refine ⟨⟨_, rfl, ?_⟩, rfl, trivial⟩
        rw [mix_zero, mix_zero]; exact .refl _
      rcases Nat.lt_or_ge i (sets g 0).length with h9 | h9
      · obtain ⟨a1, a2, a3, a4, a5, a6⟩ := set_parts h9
        have hu := impl_update0 (U := x.r1) (V := x.s1) hg k0 k1 (okM_mix oR (okM_le h.1 (by omega)) (i := i) (by omega)) (okM_mix oZ (okM_le h.2.2.1 (by omega)) (i := i) (by omega)) (by omega) h9
        rw [rowR_mix g s t 0 (by omega) (by omega), rowS_mix g s t 0 (by omega) (by omega), mix_set (by omega) (nextRR_get h9), mix_set (by omega) (nextSS_get h9)] at hu
        simp only [nodes, rows, rowsO] at hu
        simp -implicitDefEqProofs only [go_sem, evR, ints, rows, rat, rats, nodes, rowsO, evT, a1, decide_eq_true (show (i : Int) < ((sets g 0).length : Int) by omega), List.getElem?_cons_zero, List.getElem?_cons_succ, opR, Nat.reduceBEq]
        repeat (first | refine ⟨by omega, ?_⟩ | refine ⟨by rw [nd_len]; omega, ?_⟩)
        simp only [evT] at hu
        refine CallH.ref hu [1000000000] [] rfl Try.call210 (by simp) ?_ (by simp) (fun e R' hR => ?_) (.inl rfl) ?_
        · simp -implicitDefEqProofs only [srR, Nat.reduceEqDiff, ↓reduceIte, ints, rows, intsO, rowsO]
        · simp -implicitDefEqProofs only [agR, Nat.reduceLeDiff, Nat.reduceSub, vaR, go_sem, ints, rows, rat, rats, ratsO, rtR, intsO, rowsO]
        simp -implicitDefEqProofs only [clR, Nat.reduceLeDiff, go_sem, evR, rat]
        refine hn2 _ (i + 1) (Weak.of _ _ [some 1000000000] (by simp) (by simp) ?_ ?_) (by omega) (by omega)
        · simp -implicitDefEqProofs only [ints, rows, Nat.reduceBEq, wkR, Nat.reduceEqDiff, ↓reduceIte, wrR, nodes, evT, next64 h9 (by omega)]
        · exact ⟨⟨_, rfl, .refl _⟩, rfl, trivial⟩
      · have hil : i = (sets g 0).length := by omega
        have m1 : mixL (nextRR g s t 0 x.r0) x.r0 i = nextRR g s t 0 x.r0 := by rw [hil, ← lR]; exact mix_all (by omega)
        have m2 : mixL (nextSS g s t 0 x.s0) x.s0 i = nextSS g s t 0 x.s0 := by rw [hil, ← lZ]; exact mix_all (by omega)
        rw [m1, m2]
        simp -implicitDefEqProofs only [go_sem, evR, ints, rows, rat, rats, nodes, rowsO, evT, decide_eq_false (show ¬ (i : Int) < ((sets g 0).length : Int) by omega)]
        refine he2 _ _ ?_
        simp -implicitDefEqProofs only [go_sem, evR, ints, rows, rat, rats]
        refine hn _ 1 (Weak.of _ _ [some 1000000000] (by simp) (by simp) ?_ ?_) (by omega) (by omega)
        · simp -implicitDefEqProofs only [ints, rows, Nat.reduceBEq, wkR, Nat.reduceEqDiff, ↓reduceIte, wrR, nodes, evT, Int.zero_add, w1]
        · exact ⟨⟨_, rfl, .refl _⟩, rfl, trivial⟩
    | 1, _ =>
      have hsl := sets_360 hg 1
      have nR := nextRR_length g s t 1 x.r1
      have nZ := nextSS_length g s t 1 x.s1
      have lR : x.r1.length = (sets g 1).length := h.2.1.1
      have lZ : x.s1.length = (sets g 1).length := h.2.2.2.1
      have oR : okM g 1 (n * 30000000000000 + 30000000000000) (nextRR g s t 1 x.r1) := okM_range fun i hi => rowR_ok hg k0 k1 (.inr rfl : (1 : Int) = 0 ∨ (1 : Int) = 1) h.2.1 hi
      have oZ : okM g 1 (n * 30000000000000 + 30000000000000) (nextSS g s t 1 x.s1) := okM_range fun i hi => rowS_ok hg k0 k1 (.inr rfl : (1 : Int) = 0 ∨ (1 : Int) = 1) h.2.2.2 hi
      simp -implicitDefEqProofs only [go_sem, evR, ints, rows, rat, rats, itS, nodes, rowsO, decide_eq_true (show (1 : Int) < 2 by omega), Int.natCast_zero, Int.cast_ofNat_Int, opR, Nat.reduceBEq]
      have hp := infoSets_t g 1 t1.2 p2.2
      simp only [rowsO] at hp
      refine CallW.res hp [] rfl Try.call152 ?_ (.inl rfl) ?_
      · simp -implicitDefEqProofs only [agR, Nat.reduceLeDiff, Nat.reduceSub, vaR, go_sem, ints, rows, rat, rats, ratsO, rtR, intsO, rowsO]
      simp -implicitDefEqProofs only [clR, Nat.reduceLeDiff, go_sem, evR, rat]
      refine SemC.loopR (σ := Nat) (fun i => St.of [(0, .own 1000000000), (4, .t (evT g s t)), (5, .t (.i 1)), (20, .t (.i 1)), (28, .t (rows (sets g 1))), (29, .t (.i (sets g 1).length)), (30, .t (.i i))] [(1000000000, .box [nodes g.nd, rows g.w, rows g.v, rowsO (nextRR g s t 0 x.r0), rowsO (mixL (nextRR g s t 1 x.r1) x.r1 i), rowsO (nextSS g s t 0 x.s0), rowsO (mixL (nextSS g s t 1 x.s1) x.s1 i)])]) (fun i => i ≤ (sets g 1).length) (fun i => (sets g 1).length - i) 0 (Weak.trans (Weak.share 28 rfl) (Weak.of _ _ [some 1000000000] (by simp) (by simp) ?_ ?_)) (by simp) fun i hi R2 hn2 hr2 he2 => ?_
      · simp -implicitDefEqProofs only [ints, rows, Nat.reduceBEq, wkR, Nat.reduceEqDiff, ↓reduceIte, wrR, shareA, T.toSh, toShL_intsO, nodes, evT]
      · refine ⟨⟨_, rfl, ?_⟩, rfl, trivial⟩
        rw [mix_zero, mix_zero]; exact .refl _
      rcases Nat.lt_or_ge i (sets g 1).length with h9 | h9
      · obtain ⟨a1, a2, a3, a4, a5, a6⟩ := set_parts h9
        have hu := impl_update1 (U := (nextRR g s t 0 x.r0)) (V := (nextSS g s t 0 x.s0)) hg k0 k1 (okM_mix oR (okM_le h.2.1 (by omega)) (i := i) (by omega)) (okM_mix oZ (okM_le h.2.2.2 (by omega)) (i := i) (by omega)) (by omega) h9
        rw [rowR_mix g s t 1 (by omega) (by omega), rowS_mix g s t 1 (by omega) (by omega), mix_set (by omega) (nextRR_get h9), mix_set (by omega) (nextSS_get h9)] at hu
        simp only [nodes, rows, rowsO] at hu
        simp -implicitDefEqProofs only [go_sem, evR, ints, rows, rat, rats, nodes, rowsO, evT, a1, decide_eq_true (show (i : Int) < ((sets g 1).length : Int) by omega), List.getElem?_cons_zero, List.getElem?_cons_succ, opR, Nat.reduceBEq]
        repeat (first | refine ⟨by omega, ?_⟩ | refine ⟨by rw [nd_len]; omega, ?_⟩)
        simp only [evT] at hu
        refine CallH.ref hu [1000000000] [] rfl Try.call210 (by simp) ?_ (by simp) (fun e R' hR => ?_) (.inl rfl) ?_
        · simp -implicitDefEqProofs only [srR, Nat.reduceEqDiff, ↓reduceIte, ints, rows, intsO, rowsO]
        · simp -implicitDefEqProofs only [agR, Nat.reduceLeDiff, Nat.reduceSub, vaR, go_sem, ints, rows, rat, rats, ratsO, rtR, intsO, rowsO]
        simp -implicitDefEqProofs only [clR, Nat.reduceLeDiff, go_sem, evR, rat]
        refine hn2 _ (i + 1) (Weak.of _ _ [some 1000000000] (by simp) (by simp) ?_ ?_) (by omega) (by omega)
        · simp -implicitDefEqProofs only [ints, rows, Nat.reduceBEq, wkR, Nat.reduceEqDiff, ↓reduceIte, wrR, nodes, evT, next64 h9 (by omega)]
        · exact ⟨⟨_, rfl, .refl _⟩, rfl, trivial⟩
      · have hil : i = (sets g 1).length := by omega
        have m1 : mixL (nextRR g s t 1 x.r1) x.r1 i = nextRR g s t 1 x.r1 := by rw [hil, ← lR]; exact mix_all (by omega)
        have m2 : mixL (nextSS g s t 1 x.s1) x.s1 i = nextSS g s t 1 x.s1 := by rw [hil, ← lZ]; exact mix_all (by omega)
        rw [m1, m2]
        simp -implicitDefEqProofs only [go_sem, evR, ints, rows, rat, rats, nodes, rowsO, evT, decide_eq_false (show ¬ (i : Int) < ((sets g 1).length : Int) by omega)]
        refine he2 _ _ ?_
        simp -implicitDefEqProofs only [go_sem, evR, ints, rows, rat, rats]
        refine hn _ 2 (Weak.of _ _ [some 1000000000] (by simp) (by simp) ?_ ?_) (by omega) (by omega)
        · simp -implicitDefEqProofs only [ints, rows, Nat.reduceBEq, wkR, Nat.reduceEqDiff, ↓reduceIte, wrR, nodes, evT, w2']
        · exact ⟨⟨_, rfl, .refl _⟩, rfl, trivial⟩
    | 2, _ =>
      simp -implicitDefEqProofs only [go_sem, evR, ints, rows, rat, rats, itS, nodes, rowsO, decide_eq_false (show ¬ (2 : Int) < 2 by omega), Int.natCast_zero, Int.cast_ofNat_Int]
      refine he _ _ ?_
      simp -implicitDefEqProofs only [go_sem, evR, ints, rows, rat, rats, itS, nodes, rowsO, opR, Nat.reduceBEq]
end
end Go.Ab

/- Contracts: an iteration of the reference. -/
set_option linter.unusedSimpArgs false
set_option linter.unusedVariables false
namespace Go.Ab
open Go.Proofs
def ssS (g : Gm) (s t : List (List Int)) (x : RS) : Nat → T
  | 0 => .box [nodes g.nd, rows g.w, rows g.v, .arr 1 [rowsO x.r0, rowsO x.r1], .arr 1 [rowsO x.s0, rowsO x.s1]]
  | 1 => .box [nodes g.nd, rows g.w, rows g.v, .arr 1 [rowsO (nextRR g s t 0 x.r0), rowsO x.r1], .arr 1 [rowsO (nextSS g s t 0 x.s0), rowsO x.s1]]
  | _ => .box [nodes g.nd, rows g.w, rows g.v, .arr 1 [rowsO (nextRR g s t 0 x.r0), rowsO (nextRR g s t 1 x.r1)], .arr 1 [rowsO (nextSS g s t 0 x.s0), rowsO (nextSS g s t 1 x.s1)]]
section
attribute [-go_sem] load1C load1V fldC lenC idxC loadNV nilCheckW
set_option maxRecDepth 20000 in
set_option maxHeartbeats 2000000 in
theorem spec_l25Step_ok (g : Gm) (hg : isGameB g = true) (x : RS) {n : Nat} (hn : n ≤ 900) (h : okRS g n x) : Fun Try.prog 169 [ssB g x] [.own 1000000000] fun o r => o = [ssB g (stepRS g x)] ∧ r = .tup [] := by
  obtain ⟨p1, p2, p3, p4, p5⟩ := isGameB_parts hg
  obtain ⟨t1, t2, t3, t4⟩ := isTreeB_spec p1
  obtain ⟨k0, k1, _, _⟩ := okRS_strats hg (by omega) h
  have k0 := partsOK_of k0
  have k1 := partsOK_of k1
  have w1 : IntKind.i64.wrap 1 = 1 := rfl
  have w2' : IntKind.i64.wrap (1 + 1) = 2 := rfl
  refine fun_spec_l25Step_h (by simp) ?_
  simp -implicitDefEqProofs only [go_sem, evR, ints, rows, rat, rats, c_spec_l25Step_h, ssB, nodes, rowsO, opR, Nat.reduceBEq]
  refine ⟨_, Weak.trans (Weak.open 1000000000 3 501 rfl rfl rfl (by decide) rfl) (Weak.trans (Weak.open 501 0 502 rfl rfl rfl (by decide) rfl) (Weak.open 501 1 503 rfl rfl rfl (by decide) rfl)), ?_⟩
  simp -implicitDefEqProofs only [go_sem, evR, ints, rows, rat, rats, rowsO, opR, Nat.reduceBEq]
  have hs0 := spec_l25Strategy_ok 0 x.r0 (okM_runL hg (.inl rfl) h.1) (by omega)
  refine CallC.res hs0 [502] rfl Try.call111 (fun e R' hR => ?_) (.inr ⟨trivial, rowsO_noSh _, trivial⟩) ?_
  · have hq502 := (hR 502).resolve_left (by simp -implicitDefEqProofs only [go_sem, evR, ints, rows, rat, rats, not_false_eq_true])
    simp -implicitDefEqProofs only [go_sem, evR, ints, rows, rat, rats] at hq502
    simp -implicitDefEqProofs only [agR, Nat.reduceLeDiff, Nat.reduceSub, vaR, go_sem, ints, rows, rat, rats, ratsO, rtR, intsO, rowsO, hq502]
  simp -implicitDefEqProofs only [clR, Nat.reduceLeDiff, go_sem, evR, rat, opR, Nat.reduceBEq]
  have hs1 := spec_l25Strategy_ok 1 x.r1 (okM_runL hg (.inr rfl) h.2.1) (by omega)
  refine CallC.res hs1 [503] rfl Try.call111 (fun e R' hR => ?_) (.inr ⟨trivial, rowsO_noSh _, trivial⟩) ?_
  · have hq503 := (hR 503).resolve_left (by simp -implicitDefEqProofs only [go_sem, evR, ints, rows, rat, rats, not_false_eq_true])
    simp -implicitDefEqProofs only [go_sem, evR, ints, rows, rat, rats] at hq503
    simp -implicitDefEqProofs only [agR, Nat.reduceLeDiff, Nat.reduceSub, vaR, go_sem, ints, rows, rat, rats, ratsO, rtR, intsO, rowsO, hq503]
  simp -implicitDefEqProofs only [clR, Nat.reduceLeDiff, go_sem, evR, rat, opR, Nat.reduceBEq]
  have hstep : stepRS g x = ⟨nextRR g (stM x.r0) (stM x.r1) 0 x.r0, nextRR g (stM x.r0) (stM x.r1) 1 x.r1, nextSS g (stM x.r0) (stM x.r1) 0 x.s0, nextSS g (stM x.r0) (stM x.r1) 1 x.s1⟩ := rfl
  rw [hstep]
  clear hs0 hs1 hstep
  generalize stM x.r0 = s at k0 ⊢
  generalize stM x.r1 = t at k1 ⊢
  refine ⟨_, Weak.trans (Weak.close 501 1 503 rfl rfl (by decide) rfl (by simp)) (Weak.trans (Weak.close1 501 0 502 rfl rfl (by decide) rfl) (Weak.trans (Weak.close1 1000000000 3 501 rfl rfl (by decide) rfl) (Weak.trans (Weak.share 2 rfl) (Weak.share 3 rfl)))), ?_⟩
  refine SemC.loopR (σ := Nat) (fun q => St.of [(0, .own 1000000000), (2, .t (.pin [.i 0, rows s] 0)), (3, .t (.pin [.i 1, rows t] 0)), (4, .t (.i q))] [(1000000000, ssS g s t x q)]) (fun q => q ≤ 2) (fun q => 2 - q) 0 (Weak.of _ _ [some 1000000000] (by simp) (by simp) ?_ ?_) (by omega) fun q hq R hn hr he => ?_
  · simp -implicitDefEqProofs only [ints, rows, Nat.reduceBEq, wkR, Nat.reduceEqDiff, ↓reduceIte, wrR, shareA, T.toSh, T.toShL, toShL_intsO, nodes]
  · exact ⟨⟨_, rfl, .refl _⟩, rfl, trivial⟩
  · match q, hq with
    | 0, _ =>
      have hsl := sets_360 hg 0
      have nR := nextRR_length g s t 0 x.r0
      have nZ := nextSS_length g s t 0 x.s0
      have lR : x.r0.length = (sets g 0).length := h.1.1
      have lZ : x.s0.length = (sets g 0).length := h.2.2.1.1
      simp -implicitDefEqProofs only [go_sem, evR, ints, rows, rat, rats, ssS, nodes, rowsO, decide_eq_true (show (0 : Int) < 2 by omega), show ((0 : Int) == 1) = false from rfl, show ((1 : Int) == 1) = true from rfl, Int.natCast_zero, Int.cast_ofNat_Int, opR, Nat.reduceBEq]
      have hp := l21Sets_t g 0 t1.2 p2.2
      simp only [rowsO] at hp
      refine CallW.res hp [] rfl Try.call186 ?_ (.inl rfl) ?_
      · simp -implicitDefEqProofs only [agR, Nat.reduceLeDiff, Nat.reduceSub, vaR, go_sem, ints, rows, rat, rats, ratsO, rtR, intsO, rowsO]
      simp -implicitDefEqProofs only [clR, Nat.reduceLeDiff, go_sem, evR, rat]
      refine SemC.loopR (σ := Nat) (fun i => St.of [(0, .own 1000000000), (2, .t (.pin [.i 0, rows s] 0)), (3, .t (.pin [.i 1, rows t] 0)), (4, .t (.i 0)), (5, .own 105), (6, .t (rows (sets g 0))), (7, .t (.i i))] [(1000000000, .box [nodes g.nd, rows g.w, rows g.v, .arr 1 [rowsO (mixL (nextRR g s t 0 x.r0) x.r0 i), rowsO x.r1], .arr 1 [rowsO (mixL (nextSS g s t 0 x.s0) x.s0 i), rowsO x.s1]]), (105, .box [.i 0, rows s])]) (fun i => i ≤ (sets g 0).length) (fun i => (sets g 0).length - i) 0 (Weak.trans (Weak.share 40 rfl) (Weak.of _ _ [some 1000000000, some 5] (by simp) (by simp) ?_ ?_)) (by simp) fun i hi R2 hn2 hr2 he2 => ?_
      · simp -implicitDefEqProofs only [ints, rows, Nat.reduceBEq, wkR, Nat.reduceEqDiff, ↓reduceIte, wrR, shareA, T.toSh, toShL_intsO, nodes]
      · refine ⟨⟨_, rfl, ?_⟩, rfl, ⟨_, rfl, .refl _⟩, rfl, trivial⟩
        rw [mix_zero, mix_zero]; exact .refl _
      rcases Nat.lt_or_ge i (sets g 0).length with h9 | h9
      · obtain ⟨a1, a2, a3, a4, a5, a6⟩ := set_parts h9
        obtain ⟨b1, b2⟩ := size_bound hg (.inl rfl : (0 : Int) = 0 ∨ (0 : Int) = 1) h9
        obtain ⟨r, hr0, hr0', hrl, hrb⟩ := okM_get h.1 h9
        obtain ⟨z, hz0, hz0', hzl, hzb⟩ := okM_get h.2.2.1 h9
        obtain ⟨y1, y2, y3, y4⟩ := mine_row hg (.inl rfl : (0 : Int) = 0 ∨ (0 : Int) = 1) (ot_ok k0 k1 (.inl rfl : (0 : Int) = 0 ∨ (0 : Int) = 1)).1 h9
        obtain ⟨f1, f2⟩ := rowR_ok hg k0 k1 (.inl rfl : (0 : Int) = 0 ∨ (0 : Int) = 1) h.1 h9
        obtain ⟨f3, f4⟩ := rowS_ok hg k0 k1 (.inl rfl : (0 : Int) = 0 ∨ (0 : Int) = 1) h.2.2.1 h9
        have hgR := nextRR_get (s := s) (t := t) (R := x.r0) h9
        have hgZ := nextSS_get (s := s) (t := t) (R := x.s0) h9
        have hRd : rowR g s t 0 x.r0 i = updR r (cnts g s t 0 (setN g 0 i) (setC g 0 i)) (meanA ((mineOf 0 s t).getD i []) (cnts g s t 0 (setN g 0 i) (setC g 0 i))) := by rw [rowR, hr0']
        have hSd : rowS g s t 0 x.s0 i = updW z ((mineOf 0 s t).getD i []) (wayP g (mineOf 0 s t) 0 (setC g 0 i) (setN g 0 i)) := by rw [rowS, hz0']
        have hqs : s[i]? = some ((mineOf 0 s t).getD i []) := y1
        generalize hqq : (mineOf 0 s t).getD i [] = qv at y1 y2 y3 y4 hRd hSd hqs
        generalize hnr : rowR g s t 0 x.r0 i = nr at f1 f2 hRd hgR
        generalize hnz : rowS g s t 0 x.s0 i = nz at f3 f4 hSd hgZ
        generalize setN g 0 i = n at a1 a2 a4 a5 hRd hSd
        generalize setC g 0 i = c at a1 a3 hRd hSd
        have h2 : (g.nd.getD n nd0).p ≠ 2 := by omega
        have hcb := cnts_abs hg k0 k1 (.inl rfl : (0 : Int) = 0 ∨ (0 : Int) = 1) a2 h2 a3
        have hcl := cnts_length g s t 0 n c
        have hcc := spec_l25Counts0 hg k0 k1 a2 h2 a3
        have hway := spec_l25Parts_ok hg (.inl rfl : (0 : Int) = 0 ∨ (0 : Int) = 1) (ot_ok k0 k1 (.inl rfl : (0 : Int) = 0 ∨ (0 : Int) = 1)).1 a3 a2
        have hwb := own_bound hg (ot_ok k0 k1 (.inl rfl : (0 : Int) = 0 ∨ (0 : Int) = 1)).1 a3 a2 h2
        have hMb := meanP_abs y3 hcb (cnts g s t 0 n c).length
        have hMd : meanA qv (cnts g s t 0 n c) = meanP qv (cnts g s t 0 n c) (cnts g s t 0 n c).length := rfl
        rw [show mineOf 0 s t = s from rfl] at hway hwb hSd
        simp only [intsO] at hcc
        simp -implicitDefEqProofs only [go_sem, evR, ints, rows, rat, rats, nodes, rowsO, a1, decide_eq_true (show (i : Int) < ((sets g 0).length : Int) by omega), List.getElem?_cons_zero, List.getElem?_cons_succ, opR, Nat.reduceBEq]
        repeat (first | refine ⟨by omega, ?_⟩ | refine ⟨by rw [nd_len]; omega, ?_⟩)
        refine CallC.res hcc [] rfl Try.call208 (fun e R' hR => ?_) (.inl rfl) ?_
        · simp -implicitDefEqProofs only [agR, Nat.reduceLeDiff, Nat.reduceSub, vaR, go_sem, ints, rows, rat, rats, ratsO, rtR, intsO, rowsO]
        simp -implicitDefEqProofs only [clR, Nat.reduceLeDiff, go_sem, evR, rat, opR, Nat.reduceBEq]
        generalize wayP g s 0 c n = w at hwb hSd hway
        generalize cnts g s t 0 n c = C at hcb hcl hMb hMd hRd
        refine SemC.loopR (σ := Nat) (fun k => St.of [(0, .own 1000000000), (2, .t (.pin [.i 0, rows s] 0)), (3, .t (.pin [.i 1, rows t] 0)), (4, .t (.i 0)), (5, .own 105), (6, .t (rows (sets g 0))), (7, .t (.i i)), (8, .own 98), (9, .t (.i (meanP qv C k))), (10, .t (.i k))] [(1000000000, .box [nodes g.nd, rows g.w, rows g.v, .arr 1 [rowsO (mixL (nextRR g s t 0 x.r0) x.r0 i), rowsO x.r1], .arr 1 [rowsO (mixL (nextSS g s t 0 x.s0) x.s0 i), rowsO x.s1]]), (105, .box [.i 0, rows s]), (98, intsO C)]) (fun k => k ≤ C.length) (fun k => C.length - k) 0 (Weak.of _ _ [some 1000000000, some 105, some 66] (by simp) (by simp) ?_ ?_) (by omega) fun k hk R3 hn3 hr3 he3 => ?_
        · simp -implicitDefEqProofs only [ints, rows, Nat.reduceBEq, wkR, Nat.reduceEqDiff, ↓reduceIte, wrR, nodes, meanP_zero]
        · exact ⟨⟨_, rfl, .refl _⟩, rfl, ⟨_, rfl, .refl _⟩, rfl, ⟨_, rfl, .refl _⟩, rfl, trivial⟩
        rcases Nat.lt_or_ge k C.length with h8 | h8
        · obtain ⟨v, hv⟩ : ∃ v, C[k]? = some v := ⟨_, List.getElem?_eq_getElem h8⟩
          obtain ⟨y, hy⟩ : ∃ y, qv[k]? = some y := ⟨_, List.getElem?_eq_getElem (by omega)⟩
          have hyb := y3 y (List.mem_of_getElem? hy)
          have hvb := hcb v (List.mem_of_getElem? hv)
          obtain ⟨m1, m2⟩ := mul_abs hyb.1 hvb.1 hvb.2
          have hms := meanP_succ hy hv
          have hm1 := meanP_abs y3 hcb k
          have hm2 := meanP_abs y3 hcb (k + 1)
          have hqsl := (List.getElem?_eq_some_iff.1 hqs).1
          simp -implicitDefEqProofs only [go_sem, evR, ints, rows, rat, rats, nodes, rowsO, intsO, hqs, hy, hv, decide_eq_true (show (k : Int) < (C.length : Int) by omega), opR, Nat.reduceBEq]
          repeat (first | refine ⟨by omega, ?_⟩ | refine ⟨by rw [nd_len]; omega, ?_⟩)
          refine hn3 _ (k + 1) (Weak.of _ _ [some 1000000000, some 105, some 98] (by simp) (by simp) ?_ ?_) (by omega) (by omega)
          · simp -implicitDefEqProofs only [ints, rows, Nat.reduceBEq, wkR, Nat.reduceEqDiff, ↓reduceIte, wrR, nodes, next64 h8 (show C.length ≤ 1000000000000 by omega), wrap64 (n := y * v) (by omega) (by omega), ← hms, wrap64 (n := meanP qv C (k + 1)) (by omega) (by omega)]
          · exact ⟨⟨_, rfl, .refl _⟩, rfl, ⟨_, rfl, .refl _⟩, rfl, ⟨_, rfl, .refl _⟩, rfl, trivial⟩
        have hkC : k = C.length := by omega
        subst hkC
        rw [← hMd]
        rw [← hMd] at hMb
        generalize meanA qv C = M at hMb hRd ⊢
        simp -implicitDefEqProofs only [go_sem, evR, ints, rows, rat, rats, nodes, rowsO, intsO, a1, decide_eq_false (show ¬ (C.length : Int) < (C.length : Int) by omega), opR, Nat.reduceBEq]
        refine he3 _ _ ?_
        simp -implicitDefEqProofs only [go_sem, evR, ints, rows, rat, rats, nodes, rowsO, intsO, a1, List.getElem?_cons_zero, List.getElem?_cons_succ, opR, Nat.reduceBEq]
        repeat (first | refine ⟨by omega, ?_⟩ | refine ⟨by rw [nd_len]; omega, ?_⟩)
        refine CallV.pure hway [] rfl Try.call209 (fun e R' hR => ?_) (by first | trivial | simp [T.noSh, T.noShL, rat]) (fun _ => rfl) ?_
        · simp -implicitDefEqProofs only [agR, Nat.reduceLeDiff, Nat.reduceSub, vaR, go_sem, ints, rows, rat, rats, ratsO, rtR, intsO, rowsO]
        simp -implicitDefEqProofs only [go_sem, evR, ints, rows, rat, rats]
        have hnl : nr.length = r.length := by omega
        have hnz' : nz.length = z.length := by omega
        have hLR : (mixL (nextRR g s t 0 x.r0) x.r0 i).length = x.r0.length := mix_length (by omega) (by omega)
        have hLZ : (mixL (nextSS g s t 0 x.s0) x.s0 i).length = x.s0.length := mix_length (by omega) (by omega)
        have hmR := mix_set (new := nextRR g s t 0 x.r0) (old := x.r0) (by omega) hgR
        have hmZ := mix_set (new := nextSS g s t 0 x.s0) (old := x.s0) (by omega) hgZ
        have hgR0 : (mixL (nextRR g s t 0 x.r0) x.r0 i)[i]? = some r := by rw [mix_get (by omega) (by omega)]; exact hr0
        have hgZ0 : (mixL (nextSS g s t 0 x.s0) x.s0 i)[i]? = some z := by rw [mix_get (by omega) (by omega)]; exact hz0
        refine SemC.loopR (σ := Nat) (fun k => St.of [(0, .own 1000000000), (2, .t (.pin [.i 0, rows s] 0)), (3, .t (.pin [.i 1, rows t] 0)), (4, .t (.i 0)), (5, .own 105), (6, .t (rows (sets g 0))), (7, .t (.i i)), (8, .own 98), (9, .t (.i M)), (11, .t (.i w)), (12, .t (.i k))] [(1000000000, .box [nodes g.nd, rows g.w, rows g.v, .arr 1 [rowsO ((mixL (nextRR g s t 0 x.r0) x.r0 i).set i (mixL nr r k)), rowsO x.r1], .arr 1 [rowsO ((mixL (nextSS g s t 0 x.s0) x.s0 i).set i (mixL nz z k)), rowsO x.s1]]), (105, .box [.i 0, rows s]), (98, intsO C)]) (fun k => k ≤ C.length) (fun k => C.length - k) 0 (Weak.of _ _ [some 1000000000, some 105, some 98] (by simp) (by simp) ?_ ?_) (by omega) fun k hk R4 hn4 hr4 he4 => ?_
        · simp -implicitDefEqProofs only [ints, rows, Nat.reduceBEq, wkR, Nat.reduceEqDiff, ↓reduceIte, wrR, nodes]
        · refine ⟨⟨_, rfl, ?_⟩, rfl, ⟨_, rfl, .refl _⟩, rfl, ⟨_, rfl, .refl _⟩, rfl, trivial⟩
          rw [mix_zero, mix_zero, set_same hgR0, set_same hgZ0]; exact .refl _
        rcases Nat.lt_or_ge k C.length with h8 | h8
        · obtain ⟨v, hv⟩ : ∃ v, C[k]? = some v := ⟨_, List.getElem?_eq_getElem h8⟩
          obtain ⟨y, hy⟩ : ∃ y, qv[k]? = some y := ⟨_, List.getElem?_eq_getElem (by omega)⟩
          obtain ⟨x0, hx0⟩ : ∃ x0, r[k]? = some x0 := ⟨_, List.getElem?_eq_getElem (by omega)⟩
          obtain ⟨x1, hx1⟩ : ∃ x1, z[k]? = some x1 := ⟨_, List.getElem?_eq_getElem (by omega)⟩
          have hyb := y3 y (List.mem_of_getElem? hy)
          have hvb := hcb v (List.mem_of_getElem? hv)
          have hb0 := hrb x0 (List.mem_of_getElem? hx0)
          have hb1 := hzb x1 (List.mem_of_getElem? hx1)
          have hwy : 0 ≤ w * y ∧ w * y ≤ 12960000 * 60 := ⟨Int.mul_nonneg hwb.1 hyb.1, Int.mul_le_mul hwb.2 hyb.2 hyb.1 (by decide)⟩
          have hnr1 : nr[k]? = some (x0 + (60 * v - M)) := by rw [hRd]; exact updR_get hx0 hv
          have hnz1 : nz[k]? = some (x1 + w * y) := by rw [hSd]; exact updW_get hx1 hy
          have hg1 : (mixL nr r k)[k]? = some x0 := by rw [mix_get hnl (by omega)]; exact hx0
          have hg2 : (mixL nz z k)[k]? = some x1 := by rw [mix_get hnz' (by omega)]; exact hx1
          have hl1 : (mixL nr r k).length = r.length := mix_length hnl (by omega)
          have hl2 : (mixL nz z k).length = z.length := mix_length hnz' (by omega)
          have hqsl := (List.getElem?_eq_some_iff.1 hqs).1
          have hc1 : (List.map intsO ((mixL (nextRR g s t 0 x.r0) x.r0 i).set i (mixL nr r k)))[i]? = some (intsO (mixL nr r k)) := by rw [List.getElem?_map, List.getElem?_set_self (by omega)]; rfl
          have hc2 : (List.map intsO ((mixL (nextSS g s t 0 x.s0) x.s0 i).set i (mixL nz z k)))[i]? = some (intsO (mixL nz z k)) := by rw [List.getElem?_map, List.getElem?_set_self (by omega)]; rfl
          have hc3 : ((List.map intsO ((mixL (nextRR g s t 0 x.r0) x.r0 i).set i (mixL nr r k))).set i T.any)[i]? = some T.any := List.getElem?_set_self (by rw [List.length_map, List.length_set]; omega)
          have hc4 : ((List.map intsO ((mixL (nextSS g s t 0 x.s0) x.s0 i).set i (mixL nz z k))).set i T.any)[i]? = some T.any := List.getElem?_set_self (by rw [List.length_map, List.length_set]; omega)
          simp -implicitDefEqProofs only [go_sem, evR, ints, rows, rat, rats, nodes, rowsO, intsO, hy, decide_eq_true (show (k : Int) < (C.length : Int) by omega), opR, Nat.reduceBEq]
          refine ⟨_, Weak.trans (Weak.open 1000000000 3 501 rfl rfl rfl (by decide) rfl) (Weak.trans (Weak.open 501 0 502 rfl rfl rfl (by decide) rfl) (Weak.open 502 i 503 rfl hc1 rfl (by decide) rfl)), ?_⟩
          simp -implicitDefEqProofs only [go_sem, evR, ints, rows, rat, rats, rowsO, intsO, hg1, hc1, hc3, hl1, hLR, hv, List.length_set, opR, Nat.reduceBEq]
          repeat (first | refine ⟨by omega, ?_⟩ | refine ⟨by rw [nd_len]; omega, ?_⟩)
          refine ⟨_, Weak.trans (Weak.close1 502 i 503 rfl rfl (by decide) hc3) (Weak.trans (Weak.close1 501 0 502 rfl rfl (by decide) rfl) (Weak.trans (Weak.close1 1000000000 3 501 rfl rfl (by decide) rfl) (Weak.trans (Weak.open 1000000000 4 504 rfl rfl rfl (by decide) rfl) (Weak.trans (Weak.open 504 0 505 rfl rfl rfl (by decide) rfl) (Weak.open 505 i 506 rfl hc2 rfl (by decide) rfl))))), ?_⟩
          simp -implicitDefEqProofs only [go_sem, evR, ints, rows, rat, rats, rowsO, intsO, hg2, hc2, hc4, hl2, hLZ, hv, hqs, hy, List.length_set, opR, Nat.reduceBEq]
          repeat (first | refine ⟨by omega, ?_⟩ | refine ⟨by rw [nd_len]; omega, ?_⟩)
          have wA : IntKind.i64.wrap (60 * v) = 60 * v := wrap64 (by omega) (by omega)
          have wB : IntKind.i64.wrap (x0 + 60 * v) = x0 + 60 * v := wrap64 (by omega) (by omega)
          have wC : IntKind.i64.wrap (x0 + 60 * v - M) = x0 + (60 * v - M) := by rw [wrap64 (by omega) (by omega)]; omega
          have wD : IntKind.i64.wrap (w * y) = w * y := wrap64 (by omega) (by omega)
          have wE : IntKind.i64.wrap (x1 + w * y) = x1 + w * y := wrap64 (by omega) (by omega)
          refine ⟨_, Weak.trans (Weak.close1 505 i 506 rfl rfl (by decide) hc4) (Weak.trans (Weak.close1 504 0 505 rfl rfl (by decide) rfl) (Weak.close1 1000000000 4 504 rfl rfl (by decide) rfl)), ?_⟩
          simp -implicitDefEqProofs only [go_sem, evR, ints, rows, rat, rats, rowsO, intsO, opR, Nat.reduceBEq]
          refine hn4 _ (k + 1) (Weak.of _ _ [some 1000000000, some 105, some 98] (by simp) (by simp) ?_ ?_) (by omega) (by omega)
          · simp -implicitDefEqProofs only [ints, rows, Nat.reduceBEq, wkR, Nat.reduceEqDiff, ↓reduceIte, wrR, nodes, next64 h8 (show C.length ≤ 1000000000000 by omega)]
          · refine ⟨⟨_, rfl, ?_⟩, rfl, ⟨_, rfl, .refl _⟩, rfl, ⟨_, rfl, .refl _⟩, rfl, trivial⟩
            rw [← mix_set hnl hnr1, ← mix_set hnz' hnz1]
            simp only [rowsO, intsO, List.map_set, List.set_set, wA, wB, wC, wD, wE, nodes, rows]
            exact .refl _
        · have m1 : mixL nr r k = nr := by rw [show k = r.length by omega]; exact mix_all hnl
          have m2 : mixL nz z k = nz := by rw [show k = z.length by omega]; exact mix_all hnz'
          rw [m1, m2, hmR, hmZ]
          simp -implicitDefEqProofs only [go_sem, evR, ints, rows, rat, rats, nodes, rowsO, intsO, decide_eq_false (show ¬ (k : Int) < (C.length : Int) by omega), opR, Nat.reduceBEq]
          refine he4 _ _ ?_
          simp -implicitDefEqProofs only [go_sem, evR, ints, rows, rat, rats]
          refine hn2 _ (i + 1) (Weak.of _ _ [some 1000000000, some 105] (by simp) (by simp) ?_ ?_) (by omega) (by omega)
          · simp -implicitDefEqProofs only [ints, rows, Nat.reduceBEq, wkR, Nat.reduceEqDiff, ↓reduceIte, wrR, nodes, next64 h9 (by omega)]
          · exact ⟨⟨_, rfl, .refl _⟩, rfl, ⟨_, rfl, .refl _⟩, rfl, trivial⟩
      · have hil : i = (sets g 0).length := by omega
        have m1 : mixL (nextRR g s t 0 x.r0) x.r0 i = nextRR g s t 0 x.r0 := by rw [hil, ← lR]; exact mix_all (by omega)
        have m2 : mixL (nextSS g s t 0 x.s0) x.s0 i = nextSS g s t 0 x.s0 := by rw [hil, ← lZ]; exact mix_all (by omega)
        rw [m1, m2]
        simp -implicitDefEqProofs only [go_sem, evR, ints, rows, rat, rats, nodes, rowsO, decide_eq_false (show ¬ (i : Int) < ((sets g 0).length : Int) by omega)]
        refine he2 _ _ ?_
        simp -implicitDefEqProofs only [go_sem, evR, ints, rows, rat, rats]
        refine hn _ 1 (Weak.of _ _ [some 1000000000] (by simp) (by simp) ?_ ?_) (by omega) (by omega)
        · simp -implicitDefEqProofs only [ints, rows, Nat.reduceBEq, wkR, Nat.reduceEqDiff, ↓reduceIte, wrR, nodes, Int.zero_add, w1]
        · exact ⟨⟨_, rfl, .refl _⟩, rfl, trivial⟩
    | 1, _ =>
      have hsl := sets_360 hg 1
      have nR := nextRR_length g s t 1 x.r1
      have nZ := nextSS_length g s t 1 x.s1
      have lR : x.r1.length = (sets g 1).length := h.2.1.1
      have lZ : x.s1.length = (sets g 1).length := h.2.2.2.1
      simp -implicitDefEqProofs only [go_sem, evR, ints, rows, rat, rats, ssS, nodes, rowsO, decide_eq_true (show (1 : Int) < 2 by omega), show ((0 : Int) == 1) = false from rfl, show ((1 : Int) == 1) = true from rfl, Int.natCast_zero, Int.cast_ofNat_Int, opR, Nat.reduceBEq]
      have hp := l21Sets_t g 1 t1.2 p2.2
      simp only [rowsO] at hp
      refine CallW.res hp [] rfl Try.call186 ?_ (.inl rfl) ?_
      · simp -implicitDefEqProofs only [agR, Nat.reduceLeDiff, Nat.reduceSub, vaR, go_sem, ints, rows, rat, rats, ratsO, rtR, intsO, rowsO]
      simp -implicitDefEqProofs only [clR, Nat.reduceLeDiff, go_sem, evR, rat]
      refine SemC.loopR (σ := Nat) (fun i => St.of [(0, .own 1000000000), (2, .t (.pin [.i 0, rows s] 0)), (3, .t (.pin [.i 1, rows t] 0)), (4, .t (.i 1)), (5, .own 105), (6, .t (rows (sets g 1))), (7, .t (.i i))] [(1000000000, .box [nodes g.nd, rows g.w, rows g.v, .arr 1 [rowsO (nextRR g s t 0 x.r0), rowsO (mixL (nextRR g s t 1 x.r1) x.r1 i)], .arr 1 [rowsO (nextSS g s t 0 x.s0), rowsO (mixL (nextSS g s t 1 x.s1) x.s1 i)]]), (105, .box [.i 1, rows t])]) (fun i => i ≤ (sets g 1).length) (fun i => (sets g 1).length - i) 0 (Weak.trans (Weak.share 40 rfl) (Weak.of _ _ [some 1000000000, some 5] (by simp) (by simp) ?_ ?_)) (by simp) fun i hi R2 hn2 hr2 he2 => ?_
      · simp -implicitDefEqProofs only [ints, rows, Nat.reduceBEq, wkR, Nat.reduceEqDiff, ↓reduceIte, wrR, shareA, T.toSh, toShL_intsO, nodes]
      · refine ⟨⟨_, rfl, ?_⟩, rfl, ⟨_, rfl, .refl _⟩, rfl, trivial⟩
        rw [mix_zero, mix_zero]; exact .refl _
      rcases Nat.lt_or_ge i (sets g 1).length with h9 | h9
      · obtain ⟨a1, a2, a3, a4, a5, a6⟩ := set_parts h9
        obtain ⟨b1, b2⟩ := size_bound hg (.inr rfl : (1 : Int) = 0 ∨ (1 : Int) = 1) h9
        obtain ⟨r, hr0, hr0', hrl, hrb⟩ := okM_get h.2.1 h9
        obtain ⟨z, hz0, hz0', hzl, hzb⟩ := okM_get h.2.2.2 h9
        obtain ⟨y1, y2, y3, y4⟩ := mine_row hg (.inr rfl : (1 : Int) = 0 ∨ (1 : Int) = 1) (ot_ok k0 k1 (.inr rfl : (1 : Int) = 0 ∨ (1 : Int) = 1)).1 h9
        obtain ⟨f1, f2⟩ := rowR_ok hg k0 k1 (.inr rfl : (1 : Int) = 0 ∨ (1 : Int) = 1) h.2.1 h9
        obtain ⟨f3, f4⟩ := rowS_ok hg k0 k1 (.inr rfl : (1 : Int) = 0 ∨ (1 : Int) = 1) h.2.2.2 h9
        have hgR := nextRR_get (s := s) (t := t) (R := x.r1) h9
        have hgZ := nextSS_get (s := s) (t := t) (R := x.s1) h9
        have hRd : rowR g s t 1 x.r1 i = updR r (cnts g s t 1 (setN g 1 i) (setC g 1 i)) (meanA ((mineOf 1 s t).getD i []) (cnts g s t 1 (setN g 1 i) (setC g 1 i))) := by rw [rowR, hr0']
        have hSd : rowS g s t 1 x.s1 i = updW z ((mineOf 1 s t).getD i []) (wayP g (mineOf 1 s t) 1 (setC g 1 i) (setN g 1 i)) := by rw [rowS, hz0']
        have hqs : t[i]? = some ((mineOf 1 s t).getD i []) := y1
        generalize hqq : (mineOf 1 s t).getD i [] = qv at y1 y2 y3 y4 hRd hSd hqs
        generalize hnr : rowR g s t 1 x.r1 i = nr at f1 f2 hRd hgR
        generalize hnz : rowS g s t 1 x.s1 i = nz at f3 f4 hSd hgZ
        generalize setN g 1 i = n at a1 a2 a4 a5 hRd hSd
        generalize setC g 1 i = c at a1 a3 hRd hSd
        have h2 : (g.nd.getD n nd0).p ≠ 2 := by omega
        have hcb := cnts_abs hg k0 k1 (.inr rfl : (1 : Int) = 0 ∨ (1 : Int) = 1) a2 h2 a3
        have hcl := cnts_length g s t 1 n c
        have hcc := spec_l25Counts1 hg k0 k1 a2 h2 a3
        have hway := spec_l25Parts_ok hg (.inr rfl : (1 : Int) = 0 ∨ (1 : Int) = 1) (ot_ok k0 k1 (.inr rfl : (1 : Int) = 0 ∨ (1 : Int) = 1)).1 a3 a2
        have hwb := own_bound hg (ot_ok k0 k1 (.inr rfl : (1 : Int) = 0 ∨ (1 : Int) = 1)).1 a3 a2 h2
        have hMb := meanP_abs y3 hcb (cnts g s t 1 n c).length
        have hMd : meanA qv (cnts g s t 1 n c) = meanP qv (cnts g s t 1 n c) (cnts g s t 1 n c).length := rfl
        rw [show mineOf 1 s t = t from rfl] at hway hwb hSd
        simp only [intsO] at hcc
        simp -implicitDefEqProofs only [go_sem, evR, ints, rows, rat, rats, nodes, rowsO, a1, decide_eq_true (show (i : Int) < ((sets g 1).length : Int) by omega), List.getElem?_cons_zero, List.getElem?_cons_succ, opR, Nat.reduceBEq]
        repeat (first | refine ⟨by omega, ?_⟩ | refine ⟨by rw [nd_len]; omega, ?_⟩)
        refine CallC.res hcc [] rfl Try.call208 (fun e R' hR => ?_) (.inl rfl) ?_
        · simp -implicitDefEqProofs only [agR, Nat.reduceLeDiff, Nat.reduceSub, vaR, go_sem, ints, rows, rat, rats, ratsO, rtR, intsO, rowsO]
        simp -implicitDefEqProofs only [clR, Nat.reduceLeDiff, go_sem, evR, rat, opR, Nat.reduceBEq]
        generalize wayP g t 1 c n = w at hwb hSd hway
        generalize cnts g s t 1 n c = C at hcb hcl hMb hMd hRd
        refine SemC.loopR (σ := Nat) (fun k => St.of [(0, .own 1000000000), (2, .t (.pin [.i 0, rows s] 0)), (3, .t (.pin [.i 1, rows t] 0)), (4, .t (.i 1)), (5, .own 105), (6, .t (rows (sets g 1))), (7, .t (.i i)), (8, .own 98), (9, .t (.i (meanP qv C k))), (10, .t (.i k))] [(1000000000, .box [nodes g.nd, rows g.w, rows g.v, .arr 1 [rowsO (nextRR g s t 0 x.r0), rowsO (mixL (nextRR g s t 1 x.r1) x.r1 i)], .arr 1 [rowsO (nextSS g s t 0 x.s0), rowsO (mixL (nextSS g s t 1 x.s1) x.s1 i)]]), (105, .box [.i 1, rows t]), (98, intsO C)]) (fun k => k ≤ C.length) (fun k => C.length - k) 0 (Weak.of _ _ [some 1000000000, some 105, some 66] (by simp) (by simp) ?_ ?_) (by omega) fun k hk R3 hn3 hr3 he3 => ?_
        · simp -implicitDefEqProofs only [ints, rows, Nat.reduceBEq, wkR, Nat.reduceEqDiff, ↓reduceIte, wrR, nodes, meanP_zero]
        · exact ⟨⟨_, rfl, .refl _⟩, rfl, ⟨_, rfl, .refl _⟩, rfl, ⟨_, rfl, .refl _⟩, rfl, trivial⟩
        rcases Nat.lt_or_ge k C.length with h8 | h8
        · obtain ⟨v, hv⟩ : ∃ v, C[k]? = some v := ⟨_, List.getElem?_eq_getElem h8⟩
          obtain ⟨y, hy⟩ : ∃ y, qv[k]? = some y := ⟨_, List.getElem?_eq_getElem (by omega)⟩
          have hyb := y3 y (List.mem_of_getElem? hy)
          have hvb := hcb v (List.mem_of_getElem? hv)
          obtain ⟨m1, m2⟩ := mul_abs hyb.1 hvb.1 hvb.2
          have hms := meanP_succ hy hv
          have hm1 := meanP_abs y3 hcb k
          have hm2 := meanP_abs y3 hcb (k + 1)
          have hqsl := (List.getElem?_eq_some_iff.1 hqs).1
          simp -implicitDefEqProofs only [go_sem, evR, ints, rows, rat, rats, nodes, rowsO, intsO, hqs, hy, hv, decide_eq_true (show (k : Int) < (C.length : Int) by omega), opR, Nat.reduceBEq]
          repeat (first | refine ⟨by omega, ?_⟩ | refine ⟨by rw [nd_len]; omega, ?_⟩)
          refine hn3 _ (k + 1) (Weak.of _ _ [some 1000000000, some 105, some 98] (by simp) (by simp) ?_ ?_) (by omega) (by omega)
          · simp -implicitDefEqProofs only [ints, rows, Nat.reduceBEq, wkR, Nat.reduceEqDiff, ↓reduceIte, wrR, nodes, next64 h8 (show C.length ≤ 1000000000000 by omega), wrap64 (n := y * v) (by omega) (by omega), ← hms, wrap64 (n := meanP qv C (k + 1)) (by omega) (by omega)]
          · exact ⟨⟨_, rfl, .refl _⟩, rfl, ⟨_, rfl, .refl _⟩, rfl, ⟨_, rfl, .refl _⟩, rfl, trivial⟩
        have hkC : k = C.length := by omega
        subst hkC
        rw [← hMd]
        rw [← hMd] at hMb
        generalize meanA qv C = M at hMb hRd ⊢
        simp -implicitDefEqProofs only [go_sem, evR, ints, rows, rat, rats, nodes, rowsO, intsO, a1, decide_eq_false (show ¬ (C.length : Int) < (C.length : Int) by omega), opR, Nat.reduceBEq]
        refine he3 _ _ ?_
        simp -implicitDefEqProofs only [go_sem, evR, ints, rows, rat, rats, nodes, rowsO, intsO, a1, List.getElem?_cons_zero, List.getElem?_cons_succ, opR, Nat.reduceBEq]
        repeat (first | refine ⟨by omega, ?_⟩ | refine ⟨by rw [nd_len]; omega, ?_⟩)
        refine CallV.pure hway [] rfl Try.call209 (fun e R' hR => ?_) (by first | trivial | simp [T.noSh, T.noShL, rat]) (fun _ => rfl) ?_
        · simp -implicitDefEqProofs only [agR, Nat.reduceLeDiff, Nat.reduceSub, vaR, go_sem, ints, rows, rat, rats, ratsO, rtR, intsO, rowsO]
        simp -implicitDefEqProofs only [go_sem, evR, ints, rows, rat, rats]
        have hnl : nr.length = r.length := by omega
        have hnz' : nz.length = z.length := by omega
        have hLR : (mixL (nextRR g s t 1 x.r1) x.r1 i).length = x.r1.length := mix_length (by omega) (by omega)
        have hLZ : (mixL (nextSS g s t 1 x.s1) x.s1 i).length = x.s1.length := mix_length (by omega) (by omega)
        have hmR := mix_set (new := nextRR g s t 1 x.r1) (old := x.r1) (by omega) hgR
        have hmZ := mix_set (new := nextSS g s t 1 x.s1) (old := x.s1) (by omega) hgZ
        have hgR0 : (mixL (nextRR g s t 1 x.r1) x.r1 i)[i]? = some r := by rw [mix_get (by omega) (by omega)]; exact hr0
        have hgZ0 : (mixL (nextSS g s t 1 x.s1) x.s1 i)[i]? = some z := by rw [mix_get (by omega) (by omega)]; exact hz0
        refine SemC.loopR (σ := Nat) (fun k => St.of [(0, .own 1000000000), (2, .t (.pin [.i 0, rows s] 0)), (3, .t (.pin [.i 1, rows t] 0)), (4, .t (.i 1)), (5, .own 105), (6, .t (rows (sets g 1))), (7, .t (.i i)), (8, .own 98), (9, .t (.i M)), (11, .t (.i w)), (12, .t (.i k))] [(1000000000, .box [nodes g.nd, rows g.w, rows g.v, .arr 1 [rowsO (nextRR g s t 0 x.r0), rowsO ((mixL (nextRR g s t 1 x.r1) x.r1 i).set i (mixL nr r k))], .arr 1 [rowsO (nextSS g s t 0 x.s0), rowsO ((mixL (nextSS g s t 1 x.s1) x.s1 i).set i (mixL nz z k))]]), (105, .box [.i 1, rows t]), (98, intsO C)]) (fun k => k ≤ C.length) (fun k => C.length - k) 0 (Weak.of _ _ [some 1000000000, some 105, some 98] (by simp) (by simp) ?_ ?_) (by omega) fun k hk R4 hn4 hr4 he4 => ?_
        · simp -implicitDefEqProofs only [ints, rows, Nat.reduceBEq, wkR, Nat.reduceEqDiff, ↓reduceIte, wrR, nodes]
        · refine ⟨⟨_, rfl, ?_⟩, rfl, ⟨_, rfl, .refl _⟩, rfl, ⟨_, rfl, .refl _⟩, rfl, trivial⟩
          rw [mix_zero, mix_zero, set_same hgR0, set_same hgZ0]; exact .refl _
        rcases Nat.lt_or_ge k C.length with h8 | h8
        · obtain ⟨v, hv⟩ : ∃ v, C[k]? = some v := ⟨_, List.getElem?_eq_getElem h8⟩
          obtain ⟨y, hy⟩ : ∃ y, qv[k]? = some y := ⟨_, List.getElem?_eq_getElem (by omega)⟩
          obtain ⟨x0, hx0⟩ : ∃ x0, r[k]? = some x0 := ⟨_, List.getElem?_eq_getElem (by omega)⟩
          obtain ⟨x1, hx1⟩ : ∃ x1, z[k]? = some x1 := ⟨_, List.getElem?_eq_getElem (by omega)⟩
          have hyb := y3 y (List.mem_of_getElem? hy)
          have hvb := hcb v (List.mem_of_getElem? hv)
          have hb0 := hrb x0 (List.mem_of_getElem? hx0)
          have hb1 := hzb x1 (List.mem_of_getElem? hx1)
          have hwy : 0 ≤ w * y ∧ w * y ≤ 12960000 * 60 := ⟨Int.mul_nonneg hwb.1 hyb.1, Int.mul_le_mul hwb.2 hyb.2 hyb.1 (by decide)⟩
          have hnr1 : nr[k]? = some (x0 + (60 * v - M)) := by rw [hRd]; exact updR_get hx0 hv
          have hnz1 : nz[k]? = some (x1 + w * y) := by rw [hSd]; exact updW_get hx1 hy
          have hg1 : (mixL nr r k)[k]? = some x0 := by rw [mix_get hnl (by omega)]; exact hx0
          have hg2 : (mixL nz z k)[k]? = some x1 := by rw [mix_get hnz' (by omega)]; exact hx1
          have hl1 : (mixL nr r k).length = r.length := mix_length hnl (by omega)
          have hl2 : (mixL nz z k).length = z.length := mix_length hnz' (by omega)
          have hqsl := (List.getElem?_eq_some_iff.1 hqs).1
          have hc1 : (List.map intsO ((mixL (nextRR g s t 1 x.r1) x.r1 i).set i (mixL nr r k)))[i]? = some (intsO (mixL nr r k)) := by rw [List.getElem?_map, List.getElem?_set_self (by omega)]; rfl
          have hc2 : (List.map intsO ((mixL (nextSS g s t 1 x.s1) x.s1 i).set i (mixL nz z k)))[i]? = some (intsO (mixL nz z k)) := by rw [List.getElem?_map, List.getElem?_set_self (by omega)]; rfl
          have hc3 : ((List.map intsO ((mixL (nextRR g s t 1 x.r1) x.r1 i).set i (mixL nr r k))).set i T.any)[i]? = some T.any := List.getElem?_set_self (by rw [List.length_map, List.length_set]; omega)
          have hc4 : ((List.map intsO ((mixL (nextSS g s t 1 x.s1) x.s1 i).set i (mixL nz z k))).set i T.any)[i]? = some T.any := List.getElem?_set_self (by rw [List.length_map, List.length_set]; omega)
          simp -implicitDefEqProofs only [go_sem, evR, ints, rows, rat, rats, nodes, rowsO, intsO, hy, decide_eq_true (show (k : Int) < (C.length : Int) by omega), opR, Nat.reduceBEq]
          refine ⟨_, Weak.trans (Weak.open 1000000000 3 501 rfl rfl rfl (by decide) rfl) (Weak.trans (Weak.open 501 1 502 rfl rfl rfl (by decide) rfl) (Weak.open 502 i 503 rfl hc1 rfl (by decide) rfl)), ?_⟩
          simp -implicitDefEqProofs only [go_sem, evR, ints, rows, rat, rats, rowsO, intsO, hg1, hc1, hc3, hl1, hLR, hv, List.length_set, opR, Nat.reduceBEq]
          repeat (first | refine ⟨by omega, ?_⟩ | refine ⟨by rw [nd_len]; omega, ?_⟩)
          refine ⟨_, Weak.trans (Weak.close1 502 i 503 rfl rfl (by decide) hc3) (Weak.trans (Weak.close1 501 1 502 rfl rfl (by decide) rfl) (Weak.trans (Weak.close1 1000000000 3 501 rfl rfl (by decide) rfl) (Weak.trans (Weak.open 1000000000 4 504 rfl rfl rfl (by decide) rfl) (Weak.trans (Weak.open 504 1 505 rfl rfl rfl (by decide) rfl) (Weak.open 505 i 506 rfl hc2 rfl (by decide) rfl))))), ?_⟩
          simp -implicitDefEqProofs only [go_sem, evR, ints, rows, rat, rats, rowsO, intsO, hg2, hc2, hc4, hl2, hLZ, hv, hqs, hy, List.length_set, opR, Nat.reduceBEq]
          repeat (first | refine ⟨by omega, ?_⟩ | refine ⟨by rw [nd_len]; omega, ?_⟩)
          have wA : IntKind.i64.wrap (60 * v) = 60 * v := wrap64 (by omega) (by omega)
          have wB : IntKind.i64.wrap (x0 + 60 * v) = x0 + 60 * v := wrap64 (by omega) (by omega)
          have wC : IntKind.i64.wrap (x0 + 60 * v - M) = x0 + (60 * v - M) := by rw [wrap64 (by omega) (by omega)]; omega
          have wD : IntKind.i64.wrap (w * y) = w * y := wrap64 (by omega) (by omega)
          have wE : IntKind.i64.wrap (x1 + w * y) = x1 + w * y := wrap64 (by omega) (by omega)
          refine ⟨_, Weak.trans (Weak.close1 505 i 506 rfl rfl (by decide) hc4) (Weak.trans (Weak.close1 504 1 505 rfl rfl (by decide) rfl) (Weak.close1 1000000000 4 504 rfl rfl (by decide) rfl)), ?_⟩
          simp -implicitDefEqProofs only [go_sem, evR, ints, rows, rat, rats, rowsO, intsO, opR, Nat.reduceBEq]
          refine hn4 _ (k + 1) (Weak.of _ _ [some 1000000000, some 105, some 98] (by simp) (by simp) ?_ ?_) (by omega) (by omega)
          · simp -implicitDefEqProofs only [ints, rows, Nat.reduceBEq, wkR, Nat.reduceEqDiff, ↓reduceIte, wrR, nodes, next64 h8 (show C.length ≤ 1000000000000 by omega)]
          · refine ⟨⟨_, rfl, ?_⟩, rfl, ⟨_, rfl, .refl _⟩, rfl, ⟨_, rfl, .refl _⟩, rfl, trivial⟩
            rw [← mix_set hnl hnr1, ← mix_set hnz' hnz1]
            simp only [rowsO, intsO, List.map_set, List.set_set, wA, wB, wC, wD, wE, nodes, rows]
            exact .refl _
        · have m1 : mixL nr r k = nr := by rw [show k = r.length by omega]; exact mix_all hnl
          have m2 : mixL nz z k = nz := by rw [show k = z.length by omega]; exact mix_all hnz'
          rw [m1, m2, hmR, hmZ]
          simp -implicitDefEqProofs only [go_sem, evR, ints, rows, rat, rats, nodes, rowsO, intsO, decide_eq_false (show ¬ (k : Int) < (C.length : Int) by omega), opR, Nat.reduceBEq]
          refine he4 _ _ ?_
          simp -implicitDefEqProofs only [go_sem, evR, ints, rows, rat, rats]
          refine hn2 _ (i + 1) (Weak.of _ _ [some 1000000000, some 105] (by simp) (by simp) ?_ ?_) (by omega) (by omega)
          · simp -implicitDefEqProofs only [ints, rows, Nat.reduceBEq, wkR, Nat.reduceEqDiff, ↓reduceIte, wrR, nodes, next64 h9 (by omega)]
          · exact ⟨⟨_, rfl, .refl _⟩, rfl, ⟨_, rfl, .refl _⟩, rfl, trivial⟩
      · have hil : i = (sets g 1).length := by omega
        have m1 : mixL (nextRR g s t 1 x.r1) x.r1 i = nextRR g s t 1 x.r1 := by rw [hil, ← lR]; exact mix_all (by omega)
        have m2 : mixL (nextSS g s t 1 x.s1) x.s1 i = nextSS g s t 1 x.s1 := by rw [hil, ← lZ]; exact mix_all (by omega)
        rw [m1, m2]
        simp -implicitDefEqProofs only [go_sem, evR, ints, rows, rat, rats, nodes, rowsO, decide_eq_false (show ¬ (i : Int) < ((sets g 1).length : Int) by omega)]
        refine he2 _ _ ?_
        simp -implicitDefEqProofs only [go_sem, evR, ints, rows, rat, rats]
        refine hn _ 2 (Weak.of _ _ [some 1000000000] (by simp) (by simp) ?_ ?_) (by omega) (by omega)
        · simp -implicitDefEqProofs only [ints, rows, Nat.reduceBEq, wkR, Nat.reduceEqDiff, ↓reduceIte, wrR, nodes, w2']
        · exact ⟨⟨_, rfl, .refl _⟩, rfl, trivial⟩
    | 2, _ =>
      simp -implicitDefEqProofs only [go_sem, evR, ints, rows, rat, rats, ssS, nodes, rowsO, decide_eq_false (show ¬ (2 : Int) < 2 by omega), Int.natCast_zero, Int.cast_ofNat_Int]
      refine he _ _ ?_
      simp -implicitDefEqProofs only [go_sem, evR, ints, rows, rat, rats, ssS, nodes, rowsO, opR, Nat.reduceBEq]
end
end Go.Ab

/- Contracts: runs, their regrets and sums. -/
set_option linter.unusedSimpArgs false
set_option linter.unusedVariables false
namespace Go.Ab
open Go.Proofs
section
attribute [-go_sem] load1C load1V fldC lenC idxC loadNV nilCheckW
theorem spec_l25Code_ok (g : Gm) (pl n : Int) (hg : gameL g) : Pure Try.prog 107 [.agg [.sh 5 (chunk nodeC g.nd), .sh 1 (g.w.map ints), .sh 1 (g.v.map ints)], .i pl, .i n] (.i (rcode g pl n)) := by
  refine fun_spec_l25Code (by simp) ?_
  simp -implicitDefEqProofs only [go_sem, evR, ints, rows, rat, rats, c_spec_l25Code]
  refine CallW.pure (isGame_t (spec_IsGame_ok g hg)) [] rfl Try.call139 ?_ (by first | trivial | simp [T.noSh, T.noShL, rat]) rfl ?_
  · simp -implicitDefEqProofs only [agR, Nat.reduceLeDiff, Nat.reduceSub, vaR, go_sem, ints, rows, rat, rats, ratsO, rtR, intsO, rowsO]
  simp -implicitDefEqProofs only [go_sem, evR, ints, rows, rat, rats]
  rcases Bool.eq_false_or_eq_true (isGameB g) with hgb | hgb
  · rw [hgb]
    refine ⟨fun h => by simp at h, fun _ => ?_⟩
    have hq1 := spec_l01In_ok n 0 30
    have hq2 := spec_l01In_ok pl 0 1
    by_cases hn : 0 ≤ n ∧ n ≤ 30
    · rw [decide_eq_true hn] at hq1
      refine CallW.pure hq1 [] rfl Try.call148 ?_ (by first | trivial | simp [T.noSh, T.noShL, rat]) rfl ?_
      · simp -implicitDefEqProofs only [agR, Nat.reduceLeDiff, Nat.reduceSub, vaR, go_sem, ints, rows, rat, rats, ratsO, rtR, intsO, rowsO]
      simp -implicitDefEqProofs only [go_sem, evR, ints, rows, rat, rats]
      by_cases hp : 0 ≤ pl ∧ pl ≤ 1
      · rw [decide_eq_true hp] at hq2
        refine CallW.pure hq2 [] rfl Try.call148 ?_ (by first | trivial | simp [T.noSh, T.noShL, rat]) rfl ?_
        · simp -implicitDefEqProofs only [agR, Nat.reduceLeDiff, Nat.reduceSub, vaR, go_sem, ints, rows, rat, rats, ratsO, rtR, intsO, rowsO]
        simp -implicitDefEqProofs only [go_sem, evR, ints, rows, rat, rats]
        rw [rcode_zero.2 ⟨hgb, hn, hp⟩]
      · rw [decide_eq_false hp] at hq2
        refine CallW.pure hq2 [] rfl Try.call148 ?_ (by first | trivial | simp [T.noSh, T.noShL, rat]) rfl ?_
        · simp -implicitDefEqProofs only [agR, Nat.reduceLeDiff, Nat.reduceSub, vaR, go_sem, ints, rows, rat, rats, ratsO, rtR, intsO, rowsO]
        simp -implicitDefEqProofs only [go_sem, evR, ints, rows, rat, rats]
        rw [rcode_range hgb (fun h => hp h.2)]
    · rw [decide_eq_false hn] at hq1
      refine CallW.pure hq1 [] rfl Try.call148 ?_ (by first | trivial | simp [T.noSh, T.noShL, rat]) rfl ?_
      · simp -implicitDefEqProofs only [agR, Nat.reduceLeDiff, Nat.reduceSub, vaR, go_sem, ints, rows, rat, rats, ratsO, rtR, intsO, rowsO]
      simp -implicitDefEqProofs only [go_sem, evR, ints, rows, rat, rats]
      rw [rcode_range hgb (fun h => hn h.1)]
  · rw [hgb, rcode_no hgb]
    exact ⟨fun _ => rfl, fun h => by simp at h⟩
set_option maxRecDepth 20000 in
theorem spec_l25Run_ok (g : Gm) (hg : isGameB g = true) (N : Nat) (hN : N ≤ 900) : Fun Try.prog 108 [] [.t (.agg [.sh 5 (chunk nodeC g.nd), .sh 1 (g.w.map ints), .sh 1 (g.v.map ints)]), .t (.i N)] fun o r => o = [] ∧ r = ssB g (runRS g N) := by
  refine fun_spec_l25Run (by simp) ?_
  simp -implicitDefEqProofs only [go_sem, evR, ints, rows, rat, rats, c_spec_l25Run]
  have hp := spec_l25New_ok g hg
  simp only [ssB, nodes, rows, rowsO] at hp
  refine CallW.res hp [] rfl Try.call168 ?_ (.inl rfl) ?_
  · simp -implicitDefEqProofs only [agR, Nat.reduceLeDiff, Nat.reduceSub, vaR, go_sem, ints, rows, rat, rats, ratsO, rtR, intsO, rowsO]
  simp -implicitDefEqProofs only [clR, Nat.reduceLeDiff, go_sem, evR, rat]
  refine SemC.loopR (σ := Nat) (fun k => St.of [(1, .t (.i ((N : Int) - k))), (5, .own 107)] [(107, ssB g (runRS g k))]) (fun k => k ≤ N) (fun k => N - k) 0 (Weak.of _ _ [some 7] (by simp) (by simp) ?_ ?_) (by omega) fun k hk R hn hr he => ?_
  · simp -implicitDefEqProofs only [ints, rows, Nat.reduceBEq, wkR, Nat.reduceEqDiff, ↓reduceIte, wrR, Int.natCast_zero, Int.cast_ofNat_Int, Int.sub_zero]
  · exact ⟨⟨_, rfl, .refl _⟩, rfl, trivial⟩
  rcases Nat.lt_or_ge k N with h9 | h9
  · have hst := spec_l25Step_ok g hg (runRS g k) (n := k) (by omega) (runRS_ok hg k (by omega))
    rw [show stepRS g (runRS g k) = runRS g (k + 1) from rfl] at hst
    simp -implicitDefEqProofs only [go_sem, evR, ints, rows, rat, rats, decide_eq_true (show (N : Int) - k > 0 by omega)]
    refine CallW.ref hst [107] [] rfl Try.call169 (by simp) ?_ (by simp) ?_ (.inl rfl) ?_
    · simp -implicitDefEqProofs only [srR, Nat.reduceEqDiff, ↓reduceIte, ints, rows, intsO, rowsO]
    · simp -implicitDefEqProofs only [agR, Nat.reduceLeDiff, Nat.reduceSub, vaR, go_sem, ints, rows, rat, rats, ratsO, rtR, intsO, rowsO]
    simp -implicitDefEqProofs only [clR, Nat.reduceLeDiff, go_sem, evR, rat]
    refine hn _ (k + 1) (Weak.of _ _ [some 107] (by simp) (by simp) ?_ ?_) (by omega) (by omega)
    · simp -implicitDefEqProofs only [ints, rows, Nat.reduceBEq, wkR, Nat.reduceEqDiff, ↓reduceIte, wrR, show (N : Int) - k - 1 = (N : Int) - ((k + 1 : Nat) : Int) by omega, wrap64 (n := (N : Int) - ((k + 1 : Nat) : Int)) (by omega) (by omega)]
    · exact ⟨⟨_, rfl, .refl _⟩, rfl, trivial⟩
  · simp -implicitDefEqProofs only [go_sem, evR, ints, rows, rat, rats, decide_eq_false (show ¬ (N : Int) - k > 0 by omega)]
    refine he _ _ ?_
    simp -implicitDefEqProofs only [go_sem, evR, ints, rows, rat, rats, ssB, nodes, rowsO]
    rw [show k = N by omega]
theorem impl_runRegret_bad (g : Gm) (n : Int) (hgl : gameL g) (hg : isGameB g = false) : Fun Try.prog 109 [] [.t (.agg [.sh 5 (chunk nodeC g.nd), .sh 1 (g.w.map ints), .sh 1 (g.v.map ints)]), .t (.i n)] fun o r => o = [] ∧ r = .tup [.v (.pointer none), .i 1] := by
  refine fun_impl_runRegret (by simp) ?_
  simp -implicitDefEqProofs only [go_sem, evR, ints, rows, rat, rats, c_impl_runRegret]
  have hq := isGame_t (impl_IsGame_ok g hgl)
  rw [hg] at hq
  refine CallW.pure hq [] rfl Try.call115 ?_ (by first | trivial | simp [T.noSh, T.noShL, rat]) rfl ?_
  · simp -implicitDefEqProofs only [agR, Nat.reduceLeDiff, Nat.reduceSub, vaR, go_sem, ints, rows, rat, rats, ratsO, rtR, intsO, rowsO]
  simp -implicitDefEqProofs only [go_sem, evR, ints, rows, rat, rats]
theorem impl_runRegret_rng (g : Gm) (n : Int) (hgl : gameL g) (hg : isGameB g = true) (hn : ¬ (0 ≤ n ∧ n ≤ 30)) : Fun Try.prog 109 [] [.t (.agg [.sh 5 (chunk nodeC g.nd), .sh 1 (g.w.map ints), .sh 1 (g.v.map ints)]), .t (.i n)] fun o r => o = [] ∧ r = .tup [.v (.pointer none), .i 2] := by
  refine fun_impl_runRegret (by simp) ?_
  simp -implicitDefEqProofs only [go_sem, evR, ints, rows, rat, rats, c_impl_runRegret]
  have hq := isGame_t (impl_IsGame_ok g hgl)
  rw [hg] at hq
  refine CallW.pure hq [] rfl Try.call115 ?_ (by first | trivial | simp [T.noSh, T.noShL, rat]) rfl ?_
  · simp -implicitDefEqProofs only [agR, Nat.reduceLeDiff, Nat.reduceSub, vaR, go_sem, ints, rows, rat, rats, ratsO, rtR, intsO, rowsO]
  simp -implicitDefEqProofs only [go_sem, evR, ints, rows, rat, rats]
  have hq := impl_within_ok n 0 30
  rw [decide_eq_false hn] at hq
  refine CallW.pure hq [] rfl Try.call110 ?_ (by first | trivial | simp [T.noSh, T.noShL, rat]) rfl ?_
  · simp -implicitDefEqProofs only [agR, Nat.reduceLeDiff, Nat.reduceSub, vaR, go_sem, ints, rows, rat, rats, ratsO, rtR, intsO, rowsO]
  simp -implicitDefEqProofs only [go_sem, evR, ints, rows, rat, rats]
set_option maxRecDepth 20000 in
theorem impl_runRegret_ok (g : Gm) (n : Int) (hgl : gameL g) (hg : isGameB g = true) (hn : 0 ≤ n ∧ n ≤ 30) : Fun Try.prog 109 [] [.t (.agg [.sh 5 (chunk nodeC g.nd), .sh 1 (g.w.map ints), .sh 1 (g.v.map ints)]), .t (.i n)] fun o r => o = [] ∧ r = .tup [rsB g (runI g n), .i 0] := by
  refine fun_impl_runRegret (by simp) ?_
  simp -implicitDefEqProofs only [go_sem, evR, ints, rows, rat, rats, c_impl_runRegret]
  have hq := isGame_t (impl_IsGame_ok g hgl)
  rw [hg] at hq
  refine CallW.pure hq [] rfl Try.call115 ?_ (by first | trivial | simp [T.noSh, T.noShL, rat]) rfl ?_
  · simp -implicitDefEqProofs only [agR, Nat.reduceLeDiff, Nat.reduceSub, vaR, go_sem, ints, rows, rat, rats, ratsO, rtR, intsO, rowsO]
  simp -implicitDefEqProofs only [go_sem, evR, ints, rows, rat, rats]
  have hq := impl_within_ok n 0 30
  rw [decide_eq_true hn] at hq
  refine CallW.pure hq [] rfl Try.call110 ?_ (by first | trivial | simp [T.noSh, T.noShL, rat]) rfl ?_
  · simp -implicitDefEqProofs only [agR, Nat.reduceLeDiff, Nat.reduceSub, vaR, go_sem, ints, rows, rat, rats, ratsO, rtR, intsO, rowsO]
  simp -implicitDefEqProofs only [go_sem, evR, ints, rows, rat, rats]
  have hp := impl_newRegret_ok g hg
  simp only [rsB, nodes, rows, rowsO] at hp
  refine CallW.res hp [] rfl Try.call170 ?_ (.inl rfl) ?_
  · simp -implicitDefEqProofs only [agR, Nat.reduceLeDiff, Nat.reduceSub, vaR, go_sem, ints, rows, rat, rats, ratsO, rtR, intsO, rowsO]
  simp -implicitDefEqProofs only [clR, Nat.reduceLeDiff, go_sem, evR, rat]
  obtain ⟨N, rfl⟩ : ∃ N : Nat, n = N := ⟨n.toNat, by omega⟩
  refine SemC.loopR (σ := Nat) (fun k => St.of [(6, .own 107), (15, .t (.i N)), (16, .t (.i k))] [(107, rsB g (runRS g k))]) (fun k => k ≤ N) (fun k => N - k) 0 (Weak.of _ _ [some 14] (by simp) (by simp) ?_ ?_) (by omega) fun k hk R hn1 hr he => ?_
  · simp -implicitDefEqProofs only [ints, rows, Nat.reduceBEq, wkR, Nat.reduceEqDiff, ↓reduceIte, wrR]
  · exact ⟨⟨_, rfl, .refl _⟩, rfl, trivial⟩
  rcases Nat.lt_or_ge k N with h9 | h9
  · have hst := impl_iterate_ok g hg (runRS g k) (n := k) (by omega) (runRS_ok hg k (by omega))
    rw [show stepRS g (runRS g k) = runRS g (k + 1) from rfl] at hst
    simp -implicitDefEqProofs only [go_sem, evR, ints, rows, rat, rats, decide_eq_true (show (k : Int) < (N : Int) by omega)]
    refine CallW.ref hst [107] [] rfl Try.call171 (by simp) ?_ (by simp) ?_ (.inl rfl) ?_
    · simp -implicitDefEqProofs only [srR, Nat.reduceEqDiff, ↓reduceIte, ints, rows, intsO, rowsO]
    · simp -implicitDefEqProofs only [agR, Nat.reduceLeDiff, Nat.reduceSub, vaR, go_sem, ints, rows, rat, rats, ratsO, rtR, intsO, rowsO]
    simp -implicitDefEqProofs only [clR, Nat.reduceLeDiff, go_sem, evR, rat]
    refine hn1 _ (k + 1) (Weak.of _ _ [some 107] (by simp) (by simp) ?_ ?_) (by omega) (by omega)
    · simp -implicitDefEqProofs only [ints, rows, Nat.reduceBEq, wkR, Nat.reduceEqDiff, ↓reduceIte, wrR, next64 h9 (by omega)]
    · exact ⟨⟨_, rfl, .refl _⟩, rfl, trivial⟩
  · simp -implicitDefEqProofs only [go_sem, evR, ints, rows, rat, rats, decide_eq_false (show ¬ (k : Int) < (N : Int) by omega)]
    refine he _ _ ?_
    simp -implicitDefEqProofs only [go_sem, evR, ints, rows, rat, rats, rsB, nodes, rowsO, runI, show k = N by omega, Int.toNat_natCast]
end
end Go.Ab

/- Functions in compact form, with hints. -/
set_option linter.unusedVariables false
namespace Go.Ab
open Go.Proofs

def c_spec_AverageStrategies_h : CC :=
 (.seq (.reg [.o (.box 2 (sl 0)),
 .o (.alloc 4 [.v (.int .i64 0), .v (.slice none 0 0)]),
 .o (.alloc 5 [.v (.int .i64 0), .v (.slice none 0 0)]),
 .o (.move 6 (ci 0))])
 ((.seq (.reg [.o (.loadN 9 3 (sl 2)),
 .o (.move 10 (sl 1)),
 .o (.call (some 11) (cf 107) [(sl 9), (ci 0), (sl 10)]),
 .o (.move 7 (sl 11))])
 ((.seq (.seq (.reg [.o (.move 12 (sl 7)),
 .o (.bin 13 .neq (sl 12) (ci 0))])
 ((.cond (sl 13) (.seq (.reg [.o (.build 14 [.v (.int .i64 0), .v (.slice none 0 0)] [(0, 1), (1, 1)] []),
 .o (.build 15 [.v (.int .i64 0), .v (.slice none 0 0)] [(0, 1), (1, 1)] []),
 .o (.move 16 (sl 7)),
 .o (.store 2 (sl 4) (sl 14)),
 .o (.store 2 (sl 5) (sl 15)),
 .o (.move 6 (sl 16))])
 (.ret))
 .skip)))
 ((.seq (.reg [.o (.loadN 17 3 (sl 2)),
 .o (.move 18 (sl 1)),
 .o (.call (some 19) (cf 108) [(sl 17), (sl 18)]),
 .o (.move 8 (sl 19))])
 ((.seq (.weak (.draw [26, 33] [(kR, .o (.move 20 (sl 8))),
 (kR, .o (.nilc 21 (sl 20))),
 (kR, .o (.fld 22 4 (sl 21))),
 (kR, .o (.load1 23 (sl 22))),
 (kR, .o (.idx 24 1 (sl 23) (ci 0))),
 (kR, .o (.load1 25 (sl 24))),
 (.c false [], .o (.call (some 26) (cf 111) [(ci 0), (sl 25)])),
 (.r false [26], .o (.move 27 (sl 8))),
 (.r false [26], .o (.nilc 28 (sl 27))),
 (.r false [26], .o (.fld 29 4 (sl 28))),
 (.r false [26], .o (.load1 30 (sl 29))),
 (.r false [26], .o (.idx 31 1 (sl 30) (ci 1))),
 (.r false [26], .o (.load1 32 (sl 31))),
 (.c false [], .o (.call (some 33) (cf 111) [(ci 1), (sl 32)])),
 (kH, .o (.store 2 (sl 4) (sl 26))),
 (kH, .o (.store 2 (sl 5) (sl 33))),
 (kR, .o (.move 6 (ci 0)))]))
 (.ret))))))))))
theorem fun_spec_AverageStrategies_h {rin : List T} {args : List A} {Q : List T → T → Prop} (ha : args.length ≤ 34) (h : cW Try.prog 34 c_spec_AverageStrategies_h (retP Try.prog [.cell 4 47, .cell 5 47, .tmp 6] rin.length Q) (St.of (enum 0 args) (enum 1000000000 rin))) :
    Fun Try.prog 42 rin args Q :=
  Fun.of (H := ⟨[], [5]⟩) Try.func42 rfl rfl rfl (by kernel_rfl) ha (by decide) h

end Go.Ab

/- Contracts: regrets, sums and strategies behind iterations. -/
set_option linter.unusedSimpArgs false
set_option linter.unusedVariables false
namespace Go.Ab
open Go.Proofs
theorem avgR_no {g : Gm} {n : Int} (h : rcode g 0 n ≠ 0) : avgR g n = ((0, []), (0, []), rcode g 0 n) := by rw [avgR, if_neg h]; rfl
theorem avgR_ok {g : Gm} {n : Int} (h : rcode g 0 n = 0) : avgR g n = ((0, stM (runI g n).s0), (1, stM (runI g n).s1), 0) := by rw [avgR, if_pos h]
theorem stLe {f : FuncId} {args : List A} {R : (Int × List (List Int)) × (Int × List (List Int)) × Int} (h : Fun Try.prog f [] args fun o r => o = [] ∧ (r = ritO R ∨ ∃ c, R = ((0, []), (0, []), c) ∧ r = .tup [.agg [.i 0, .v (.slice none 0 0)], .agg [.i 0, .v (.slice none 0 0)], .i c])) : Fun Try.prog f [] args fun o r => o = [] ∧ r = ritO R := by
  refine Fun.le h ?_
  rintro o r ⟨rfl, rfl | ⟨c, e, rfl⟩⟩
  · exact ⟨_, .refl _, rfl, rfl⟩
  · refine ⟨ritO R, ?_, rfl, rfl⟩
    rw [e]
    exact .tup3 stZ_le stZ_le (.refl _)
section
attribute [-go_sem] load1C load1V fldC lenC idxC loadNV nilCheckW
set_option maxRecDepth 20000 in
theorem impl_AverageStrategies_ok (g : Gm) (n : Int) (hg : gameL g) : Fun Try.prog 43 [] [.t (gameT g), .t (.i n)] fun o r => o = [] ∧ r = ritO (avgR g n) := by
  refine stLe ?_
  refine fun_impl_AverageStrategies_h (by simp) ?_
  simp -implicitDefEqProofs only [go_sem, evR, ints, rows, rat, rats, c_impl_AverageStrategies_h, gameT, nodes]
  rcases Bool.eq_false_or_eq_true (isGameB g) with hgb | hgb
  · by_cases hn : 0 ≤ n ∧ n ≤ 30
    · have hp := impl_runRegret_ok g n hg hgb hn
      simp only [rsB, nodes, rows, rowsO] at hp
      refine CallW.res hp [] rfl Try.call109 ?_ (.inl rfl) ?_
      · simp -implicitDefEqProofs only [agR, Nat.reduceLeDiff, Nat.reduceSub, vaR, go_sem, ints, rows, rat, rats, ratsO, rtR, intsO, rowsO]
      simp -implicitDefEqProofs only [clR, Nat.reduceLeDiff, go_sem, evR, rat, show ((0 : Int) != 0) = false from rfl, opR, Nat.reduceBEq]
      rw [avgR_ok (rcode_zero.2 ⟨hgb, hn, by omega⟩)]
      have hk := runRS_ok hgb n.toNat (by omega)
      have hq := impl_average_ok g (runI g n) (okM_runL hgb (.inl rfl) hk.2.2.1) (okM_runL hgb (.inr rfl) hk.2.2.2) (by omega)
      refine CallW.res hq [14] rfl Try.call113 ?_ (.inr (cur_noSh _ _)) ?_
      · simp -implicitDefEqProofs only [agR, Nat.reduceLeDiff, Nat.reduceSub, vaR, go_sem, ints, rows, rat, rats, ratsO, rtR, intsO, rowsO, T.toShL.eq_1, T.toShL.eq_2, toShL_intsO]
      simp -implicitDefEqProofs only [clR, Nat.reduceLeDiff, go_sem, evR, rat, opR, Nat.reduceBEq]
      refine ⟨_, Weak.trans (Weak.open 9 1 501 rfl rfl rfl (by decide) rfl) (Weak.open 10 1 502 rfl rfl rfl (by decide) rfl), ?_⟩
      simp -implicitDefEqProofs only [go_sem, evR, ints, rows, rat, rats, opR, Nat.reduceBEq, cellsV, noLk, readOK, readA]
      exact ⟨.inl rfl, ((frameOK.refl _ _ _).upd _ (.inl (by simp))).upd _ (.inl (by simp))⟩
    · refine CallW.res (impl_runRegret_rng g n hg hgb hn) [] rfl Try.call109 ?_ (.inl rfl) ?_
      · simp -implicitDefEqProofs only [agR, Nat.reduceLeDiff, Nat.reduceSub, vaR, go_sem, ints, rows, rat, rats, ratsO, rtR, intsO, rowsO]
      simp -implicitDefEqProofs only [clR, Nat.reduceLeDiff, go_sem, evR, rat, show ((2 : Int) != 0) = true from rfl, opR, Nat.reduceBEq]
      have hc := rcode_range hgb (fun h => hn h.1 : ¬ ((0 ≤ n ∧ n ≤ 30) ∧ (0 ≤ (0 : Int) ∧ (0 : Int) ≤ 1)))
      exact .inr ⟨2, by rw [avgR_no (by rw [hc]; decide), hc], rfl⟩
  · refine CallW.res (impl_runRegret_bad g n hg hgb) [] rfl Try.call109 ?_ (.inl rfl) ?_
    · simp -implicitDefEqProofs only [agR, Nat.reduceLeDiff, Nat.reduceSub, vaR, go_sem, ints, rows, rat, rats, ratsO, rtR, intsO, rowsO]
    simp -implicitDefEqProofs only [clR, Nat.reduceLeDiff, go_sem, evR, rat, show ((1 : Int) != 0) = true from rfl, opR, Nat.reduceBEq]
    have hc := rcode_no (pl := 0) (n := n) hgb
    exact .inr ⟨1, by rw [avgR_no (by rw [hc]; decide), hc], rfl⟩
set_option maxRecDepth 20000 in
theorem spec_AverageStrategies_ok (g : Gm) (n : Int) (hg : gameL g) : Fun Try.prog 42 [] [.t (gameT g), .t (.i n)] fun o r => o = [] ∧ r = ritO (avgR g n) := by
  refine stLe ?_
  refine fun_spec_AverageStrategies_h (by simp) ?_
  simp -implicitDefEqProofs only [go_sem, evR, ints, rows, rat, rats, c_spec_AverageStrategies_h, gameT, nodes]
  refine CallW.pure (spec_l25Code_ok g 0 n hg) [] rfl Try.call107 ?_ (by first | trivial | simp [T.noSh, T.noShL, rat]) rfl ?_
  · simp -implicitDefEqProofs only [agR, Nat.reduceLeDiff, Nat.reduceSub, vaR, go_sem, ints, rows, rat, rats, ratsO, rtR, intsO, rowsO]
  simp -implicitDefEqProofs only [go_sem, evR, ints, rows, rat, rats, opR, Nat.reduceBEq]
  by_cases hc : rcode g 0 n = 0
  · obtain ⟨hgb, hn, hpl⟩ := rcode_zero.1 hc
    rw [hc]
    refine ⟨fun h => by simp at h, fun _ => ?_⟩
    have hp := spec_l25Run_ok g hgb n.toNat (by omega)
    rw [show ((n.toNat : Nat) : Int) = n by omega] at hp
    simp only [ssB, nodes, rows, rowsO] at hp
    refine CallW.res hp [] rfl Try.call108 ?_ (.inl rfl) ?_
    · simp -implicitDefEqProofs only [agR, Nat.reduceLeDiff, Nat.reduceSub, vaR, go_sem, ints, rows, rat, rats, ratsO, rtR, intsO, rowsO]
    simp -implicitDefEqProofs only [clR, Nat.reduceLeDiff, go_sem, evR, rat, opR, Nat.reduceBEq]
    rw [avgR_ok hc]
    have hk := runRS_ok hgb n.toNat (by omega)
    refine ⟨_, Weak.trans (Weak.share 19 rfl) (Weak.of [(4, .own 4), (5, .own 5), (8, .t (.pin [.sh 5 (chunk nodeC g.nd), .sh 1 (g.w.map ints), .sh 1 (g.v.map ints), .sh 1 [rows (runRS g n.toNat).r0, rows (runRS g n.toNat).r1], .sh 1 [rows (runRS g n.toNat).s0, rows (runRS g n.toNat).s1]] 0))] [(4, .box [.i 0, .v (.slice none 0 0)]), (5, .box [.i 0, .v (.slice none 0 0)])] [some 4, some 5] (by simp) (by simp) ?_ ?_), ?_⟩
    · simp -implicitDefEqProofs only [ints, rows, Nat.reduceBEq, wkR, Nat.reduceEqDiff, ↓reduceIte, wrR, shareA, T.toSh, T.toShL, toShL_intsO]
    · exact ⟨⟨_, rfl, .refl _⟩, rfl, ⟨_, rfl, .refl _⟩, rfl, trivial⟩
    simp -implicitDefEqProofs only [go_sem, evR, ints, rows, rat, rats, List.length_cons, List.length_nil, opR, Nat.reduceBEq]
    repeat (first | refine ⟨by omega, ?_⟩ | refine ⟨by rw [nd_len]; omega, ?_⟩)
    refine CallC.res (spec_l25Strategy_ok 0 (runRS g n.toNat).s0 (okM_runL hgb (.inl rfl) hk.2.2.1) (by omega)) [] rfl Try.call111 (fun e R' hR => ?_) (.inl rfl) ?_
    · simp -implicitDefEqProofs only [agR, Nat.reduceLeDiff, Nat.reduceSub, vaR, go_sem, ints, rows, rat, rats, ratsO, rtR, intsO, rowsO]
    simp -implicitDefEqProofs only [clR, Nat.reduceLeDiff, go_sem, evR, rat, List.length_cons, List.length_nil, opR, Nat.reduceBEq]
    repeat (first | refine ⟨by omega, ?_⟩ | refine ⟨by rw [nd_len]; omega, ?_⟩)
    refine CallC.res (spec_l25Strategy_ok 1 (runRS g n.toNat).s1 (okM_runL hgb (.inr rfl) hk.2.2.2) (by omega)) [] rfl Try.call111 (fun e R' hR => ?_) (.inl rfl) ?_
    · simp -implicitDefEqProofs only [agR, Nat.reduceLeDiff, Nat.reduceSub, vaR, go_sem, ints, rows, rat, rats, ratsO, rtR, intsO, rowsO]
    simp -implicitDefEqProofs only [clR, Nat.reduceLeDiff, go_sem, evR, rat, opR, Nat.reduceBEq]
    exact .inl rfl
  · refine ⟨fun _ => .inr ⟨rcode g 0 n, avgR_no hc, rfl⟩, fun h => absurd (by simpa using h) hc⟩
end
end Go.Ab

/- The law FnExactAverageStrategies, as a contract. -/
set_option linter.unusedSimpArgs false
set_option linter.unusedVariables false
namespace Go.Ab
open Go.Proofs

section
attribute [-go_sem] load1C load1V fldC lenC idxC loadNV nilCheckW
set_option maxRecDepth 20000 in
theorem laws_FnExactAverageStrategies_ok (g : Gm) (hg : gameL g) (n : Int)  : Pure Try.prog 9 [gameT g, .i n] (.b true) := by
  refine fun_laws_FnExactAverageStrategies (by simp) ?_
  simp -implicitDefEqProofs only [go_sem, evR, ints, rows, rat, rats, c_laws_FnExactAverageStrategies, gameT, stratT, claimT, gameO, stratO, claimO, nodes, nodesO, rowsO, intsO]
  have hc1 := laws_szGame_ok g 1048576 hg (by omega) (by omega)
  (try simp only [gameT, stratT, claimT, gameO, stratO, claimO, nodes, nodesO, rows, rowsO, ints, intsO, ritO] at hc1)
  refine CallW.pure hc1 [] rfl Try.call20 ?_ (by first | trivial | simp [T.noSh, T.noShL, rat]) rfl ?_
  · simp -implicitDefEqProofs only [agR, Nat.reduceLeDiff, Nat.reduceSub, vaR, go_sem, ints, rows, rat, rats, ratsO, rtR, intsO, rowsO]
  simp -implicitDefEqProofs only [go_sem, evR, ints, rows, rat, rats, opR, Nat.reduceBEq, cellsV, noLk, readOK, readA, mergeR_at]
  refine ⟨fun _ => trivial, fun hb0 => ?_⟩
  obtain ⟨hgS, hgb1, hgb2⟩ := budgetG_S (g := g) (left := 1048576) (by omega) (by omega) hb0
  have hg12 := gameS_12 hgS
  have hf01 := ((avgR_rowsS g n).1)
  have hf02 := hf01.1
  have hf03 := hf01.2
  have hf11 := ((avgR_rowsS g n).2)
  have hf12 := hf11.1
  have hf13 := hf11.2
  have hc2 := laws_toGame_ok g hg12
  (try simp only [gameT, stratT, claimT, gameO, stratO, claimO, nodes, nodesO, rows, rowsO, ints, intsO, ritO] at hc2)
  refine CallW.res hc2 [] rfl Try.call22 ?_ (.inl rfl) ?_
  · simp -implicitDefEqProofs only [agR, Nat.reduceLeDiff, Nat.reduceSub, vaR, go_sem, ints, rows, rat, rats, ratsO, rtR, intsO, rowsO]
  simp -implicitDefEqProofs only [clR, Nat.reduceLeDiff, go_sem, evR, rat, opR, Nat.reduceBEq, cellsV, noLk, readOK, readA, mergeR_at]
  have hc3 := spec_AverageStrategies_ok g n (gameS_L hgS)
  (try simp only [gameT, stratT, claimT, gameO, stratO, claimO, nodes, nodesO, rows, rowsO, ints, intsO, ritO] at hc3)
  refine CallW.res hc3 [26, 27001, 27002] rfl Try.call42 ?_ (.inr (ritO_noSh _)) ?_
  · simp -implicitDefEqProofs only [agR, Nat.reduceLeDiff, Nat.reduceSub, vaR, go_sem, ints, rows, rat, rats, ratsO, rtR, intsO, rowsO]
  simp -implicitDefEqProofs only [clR, Nat.reduceLeDiff, go_sem, evR, rat, opR, Nat.reduceBEq, cellsV, noLk, readOK, readA, mergeR_at]
  have hc4 := laws_toGame_ok g hg12
  (try simp only [gameT, stratT, claimT, gameO, stratO, claimO, nodes, nodesO, rows, rowsO, ints, intsO, ritO] at hc4)
  refine CallW.res hc4 [] rfl Try.call22 ?_ (.inl rfl) ?_
  · simp -implicitDefEqProofs only [agR, Nat.reduceLeDiff, Nat.reduceSub, vaR, go_sem, ints, rows, rat, rats, ratsO, rtR, intsO, rowsO]
  simp -implicitDefEqProofs only [clR, Nat.reduceLeDiff, go_sem, evR, rat, opR, Nat.reduceBEq, cellsV, noLk, readOK, readA, mergeR_at]
  have hc5 := impl_AverageStrategies_ok g n (gameS_L hgS)
  (try simp only [gameT, stratT, claimT, gameO, stratO, claimO, nodes, nodesO, rows, rowsO, ints, intsO, ritO] at hc5)
  refine CallW.res hc5 [36001, 36002, 36003] rfl Try.call43 ?_ (.inr (ritO_noSh _)) ?_
  · simp -implicitDefEqProofs only [agR, Nat.reduceLeDiff, Nat.reduceSub, vaR, go_sem, ints, rows, rat, rats, ratsO, rtR, intsO, rowsO]
  simp -implicitDefEqProofs only [clR, Nat.reduceLeDiff, go_sem, evR, rat, opR, Nat.reduceBEq, cellsV, noLk, readOK, readA, mergeR_at]
  have hc6 := laws_eqStrategy_ok (avgR g n).1 (avgR g n).1 (rowsS_12 hf01) (rowsS_12 hf01)
  (try simp only [gameT, stratT, claimT, gameO, stratO, claimO, nodes, nodesO, rows, rowsO, ints, intsO, ritO] at hc6)
  refine CallW.pure hc6 [42002, 43002] rfl Try.call39 ?_ (by first | trivial | simp [T.noSh, T.noShL, rat]) rfl ?_
  · simp -implicitDefEqProofs only [agR, Nat.reduceLeDiff, Nat.reduceSub, vaR, go_sem, ints, rows, rat, rats, ratsO, rtR, intsO, rowsO]
  simp -implicitDefEqProofs only [go_sem, evR, ints, rows, rat, rats, opR, Nat.reduceBEq, cellsV, noLk, readOK, readA, mergeR_at, not_true_eq_false, decide_true, decide_false]
  have hc7 := laws_eqStrategy_ok (avgR g n).2.1 (avgR g n).2.1 (rowsS_12 hf11) (rowsS_12 hf11)
  (try simp only [gameT, stratT, claimT, gameO, stratO, claimO, nodes, nodesO, rows, rowsO, ints, intsO, ritO] at hc7)
  refine CallW.pure hc7 [47002, 48002] rfl Try.call39 ?_ (by first | trivial | simp [T.noSh, T.noShL, rat]) rfl ?_
  · simp -implicitDefEqProofs only [agR, Nat.reduceLeDiff, Nat.reduceSub, vaR, go_sem, ints, rows, rat, rats, ratsO, rtR, intsO, rowsO]
  simp -implicitDefEqProofs only [go_sem, evR, ints, rows, rat, rats, opR, Nat.reduceBEq, cellsV, noLk, readOK, readA, mergeR_at, not_true_eq_false, decide_true, decide_false]
  have hc8 := laws_toGame_ok g hg12
  (try simp only [gameT, stratT, claimT, gameO, stratO, claimO, nodes, nodesO, rows, rowsO, ints, intsO, ritO] at hc8)
  refine CallC.res hc8 [] rfl Try.call22 (fun e R' hR => ?_) (.inl rfl) ?_
  · simp -implicitDefEqProofs only [agR, Nat.reduceLeDiff, Nat.reduceSub, vaR, go_sem, ints, rows, rat, rats, ratsO, rtR, intsO, rowsO]
  simp -implicitDefEqProofs only [clR, Nat.reduceLeDiff, go_sem, evR, rat, opR, Nat.reduceBEq, cellsV, noLk, readOK, readA, mergeR_at]
  have hc9 := laws_eqGame_ok g g hg12 hg12
  (try simp only [gameT, stratT, claimT, gameO, stratO, claimO, nodes, nodesO, rows, rowsO, ints, intsO, ritO] at hc9)
  refine CallV.pure hc9 [36001, 36002, 36003, 58, 59001, 59002] rfl Try.call25 (fun e R' hR => ?_) (by first | trivial | simp [T.noSh, T.noShL, rat]) (fun _ => rfl) ?_
  · have hq36001 := (hR 36001).resolve_left (by simp -implicitDefEqProofs only [go_sem, evR, ints, rows, rat, rats, not_false_eq_true]); have hq36002 := (hR 36002).resolve_left (by simp -implicitDefEqProofs only [go_sem, evR, ints, rows, rat, rats, not_false_eq_true]); have hq36003 := (hR 36003).resolve_left (by simp -implicitDefEqProofs only [go_sem, evR, ints, rows, rat, rats, not_false_eq_true]); have hq58 := (hR 58).resolve_left (by simp -implicitDefEqProofs only [go_sem, evR, ints, rows, rat, rats, not_false_eq_true]); have hq59001 := (hR 59001).resolve_left (by simp -implicitDefEqProofs only [go_sem, evR, ints, rows, rat, rats, not_false_eq_true]); have hq59002 := (hR 59002).resolve_left (by simp -implicitDefEqProofs only [go_sem, evR, ints, rows, rat, rats, not_false_eq_true])
    simp -implicitDefEqProofs only [go_sem, evR, ints, rows, rat, rats] at hq36001 hq36002 hq36003 hq58 hq59001 hq59002
    simp -implicitDefEqProofs only [agR, Nat.reduceLeDiff, Nat.reduceSub, vaR, go_sem, ints, rows, rat, rats, ratsO, rtR, intsO, rowsO, hq36001, hq36002, hq36003, hq58, hq59001, hq59002]
  simp -implicitDefEqProofs only [go_sem, evR, ints, rows, rat, rats, opR, Nat.reduceBEq, cellsV, noLk, readOK, readA, mergeR_at, not_true_eq_false, decide_true, decide_false]
  have hgt := totG_le hgS
  have hc10 := laws_markGame_ok g 1 hgS (by omega) (by omega)
  (try simp only [gameT, stratT, claimT, gameO, stratO, claimO, nodes, nodesO, rows, rowsO, ints, intsO, ritO] at hc10)
  refine CallW.ref hc10 [36001, 36002, 36003] [] rfl Try.call26 (by simp) ?_ (by simp) ?_ (.inl rfl) ?_
  · simp -implicitDefEqProofs only [srR, Nat.reduceEqDiff, ↓reduceIte, ints, rows, intsO, rowsO]
  · simp -implicitDefEqProofs only [agR, Nat.reduceLeDiff, Nat.reduceSub, vaR, go_sem, ints, rows, rat, rats, ratsO, rtR, intsO, rowsO]
  simp -implicitDefEqProofs only [clR, Nat.reduceLeDiff, go_sem, evR, rat, opR, Nat.reduceBEq, cellsV, noLk, readOK, readA, mergeR_at]
  refine ⟨fun _ => ?_, fun h => absurd h (by omega)⟩
  have hc11 := laws_eqStrategy_ok (avgR g n).1 (avgR g n).1 (rowsS_12 hf01) (rowsS_12 hf01)
  (try simp only [gameT, stratT, claimT, gameO, stratO, claimO, nodes, nodesO, rows, rowsO, ints, intsO, ritO] at hc11)
  refine CallW.pure hc11 [42002, 43002] rfl Try.call39 ?_ (by first | trivial | simp [T.noSh, T.noShL, rat]) rfl ?_
  · simp -implicitDefEqProofs only [agR, Nat.reduceLeDiff, Nat.reduceSub, vaR, go_sem, ints, rows, rat, rats, ratsO, rtR, intsO, rowsO]
  simp -implicitDefEqProofs only [go_sem, evR, ints, rows, rat, rats, opR, Nat.reduceBEq, cellsV, noLk, readOK, readA, mergeR_at, not_true_eq_false, decide_true, decide_false]
  have hc12 := laws_eqStrategy_ok (avgR g n).2.1 (avgR g n).2.1 (rowsS_12 hf11) (rowsS_12 hf11)
  (try simp only [gameT, stratT, claimT, gameO, stratO, claimO, nodes, nodesO, rows, rowsO, ints, intsO, ritO] at hc12)
  refine CallW.pure hc12 [47002, 48002] rfl Try.call39 ?_ (by first | trivial | simp [T.noSh, T.noShL, rat]) rfl ?_
  · simp -implicitDefEqProofs only [agR, Nat.reduceLeDiff, Nat.reduceSub, vaR, go_sem, ints, rows, rat, rats, ratsO, rtR, intsO, rowsO]
  simp -implicitDefEqProofs only [go_sem, evR, ints, rows, rat, rats, opR, Nat.reduceBEq, cellsV, noLk, readOK, readA, mergeR_at, not_true_eq_false, decide_true, decide_false]
  have hc13 := laws_markStrategy_ok (avgR g n).1 1 (by omega) (by omega) (by omega) (by omega)
  (try simp only [gameT, stratT, claimT, gameO, stratO, claimO, nodes, nodesO, rows, rowsO, ints, intsO, ritO] at hc13)
  refine CallW.ref hc13 [42002] [] rfl Try.call40 (by simp) ?_ (by simp) ?_ (.inl rfl) ?_
  · simp -implicitDefEqProofs only [srR, Nat.reduceEqDiff, ↓reduceIte, ints, rows, intsO, rowsO]
  · simp -implicitDefEqProofs only [agR, Nat.reduceLeDiff, Nat.reduceSub, vaR, go_sem, ints, rows, rat, rats, ratsO, rtR, intsO, rowsO]
  simp -implicitDefEqProofs only [clR, Nat.reduceLeDiff, go_sem, evR, rat, opR, Nat.reduceBEq, cellsV, noLk, readOK, readA, mergeR_at]
  have hc14 := laws_markStrategy_ok (avgR g n).2.1 (1 + tot (avgR g n).1.2) (by omega) (by omega) (by omega) (by omega)
  (try simp only [gameT, stratT, claimT, gameO, stratO, claimO, nodes, nodesO, rows, rowsO, ints, intsO, ritO] at hc14)
  refine CallW.ref hc14 [47002] [] rfl Try.call40 (by simp) ?_ (by simp) ?_ (.inl rfl) ?_
  · simp -implicitDefEqProofs only [srR, Nat.reduceEqDiff, ↓reduceIte, ints, rows, intsO, rowsO]
  · simp -implicitDefEqProofs only [agR, Nat.reduceLeDiff, Nat.reduceSub, vaR, go_sem, ints, rows, rat, rats, ratsO, rtR, intsO, rowsO]
  simp -implicitDefEqProofs only [clR, Nat.reduceLeDiff, go_sem, evR, rat, opR, Nat.reduceBEq, cellsV, noLk, readOK, readA, mergeR_at]
  have hc15 := laws_heldStrategy_marks (avgR g n).1 1 hf02 hf03 (by omega) (by omega)
  (try simp only [gameT, stratT, claimT, gameO, stratO, claimO, nodes, nodesO, rows, rowsO, ints, intsO, ritO] at hc15)
  refine CallW.pure hc15 [42002] rfl Try.call41 ?_ (by first | trivial | simp [T.noSh, T.noShL, rat]) rfl ?_
  · simp -implicitDefEqProofs only [agR, Nat.reduceLeDiff, Nat.reduceSub, vaR, go_sem, ints, rows, rat, rats, ratsO, rtR, intsO, rowsO]
  simp -implicitDefEqProofs only [go_sem, evR, ints, rows, rat, rats, opR, Nat.reduceBEq, cellsV, noLk, readOK, readA, mergeR_at]
  refine ⟨fun h => absurd h (by omega), fun _ => ?_⟩
  have hc16 := laws_heldStrategy_marks (avgR g n).2.1 (1 + tot (avgR g n).1.2) hf12 hf13 (by omega) (by omega)
  (try simp only [gameT, stratT, claimT, gameO, stratO, claimO, nodes, nodesO, rows, rowsO, ints, intsO, ritO] at hc16)
  refine CallW.pure hc16 [47002] rfl Try.call41 ?_ (by first | trivial | simp [T.noSh, T.noShL, rat]) rfl ?_
  · simp -implicitDefEqProofs only [agR, Nat.reduceLeDiff, Nat.reduceSub, vaR, go_sem, ints, rows, rat, rats, ratsO, rtR, intsO, rowsO]
  simp -implicitDefEqProofs only [go_sem, evR, ints, rows, rat, rats, opR, Nat.reduceBEq, cellsV, noLk, readOK, readA, mergeR_at]
  refine ⟨fun h => absurd h (by omega), fun _ => ?_⟩
  have hc17 := laws_toGame_ok g hg12
  (try simp only [gameT, stratT, claimT, gameO, stratO, claimO, nodes, nodesO, rows, rowsO, ints, intsO, ritO] at hc17)
  refine CallW.res hc17 [] rfl Try.call22 ?_ (.inl rfl) ?_
  · simp -implicitDefEqProofs only [agR, Nat.reduceLeDiff, Nat.reduceSub, vaR, go_sem, ints, rows, rat, rats, ratsO, rtR, intsO, rowsO]
  simp -implicitDefEqProofs only [clR, Nat.reduceLeDiff, go_sem, evR, rat, opR, Nat.reduceBEq, cellsV, noLk, readOK, readA, mergeR_at]
  have hc18 := impl_AverageStrategies_ok g n (gameS_L hgS)
  (try simp only [gameT, stratT, claimT, gameO, stratO, claimO, nodes, nodesO, rows, rowsO, ints, intsO, ritO] at hc18)
  refine CallW.res hc18 [104, 105001, 105002] rfl Try.call43 ?_ (.inr (ritO_noSh _)) ?_
  · simp -implicitDefEqProofs only [agR, Nat.reduceLeDiff, Nat.reduceSub, vaR, go_sem, ints, rows, rat, rats, ratsO, rtR, intsO, rowsO]
  simp -implicitDefEqProofs only [clR, Nat.reduceLeDiff, go_sem, evR, rat, opR, Nat.reduceBEq, cellsV, noLk, readOK, readA, mergeR_at]
  have hc19 := laws_eqStrategy_ok (avgR g n).1 (avgR g n).1 (rowsS_12 hf01) (rowsS_12 hf01)
  (try simp only [gameT, stratT, claimT, gameO, stratO, claimO, nodes, nodesO, rows, rowsO, ints, intsO, ritO] at hc19)
  refine CallW.pure hc19 [111002, 43002] rfl Try.call39 ?_ (by first | trivial | simp [T.noSh, T.noShL, rat]) rfl ?_
  · simp -implicitDefEqProofs only [agR, Nat.reduceLeDiff, Nat.reduceSub, vaR, go_sem, ints, rows, rat, rats, ratsO, rtR, intsO, rowsO]
  simp -implicitDefEqProofs only [go_sem, evR, ints, rows, rat, rats, opR, Nat.reduceBEq, cellsV, noLk, readOK, readA, mergeR_at, not_true_eq_false, decide_true, decide_false]
  have hc20 := laws_eqStrategy_ok (avgR g n).2.1 (avgR g n).2.1 (rowsS_12 hf11) (rowsS_12 hf11)
  (try simp only [gameT, stratT, claimT, gameO, stratO, claimO, nodes, nodesO, rows, rowsO, ints, intsO, ritO] at hc20)
  refine CallW.pure hc20 [116002, 48002] rfl Try.call39 ?_ (by first | trivial | simp [T.noSh, T.noShL, rat]) rfl ?_
  · simp -implicitDefEqProofs only [agR, Nat.reduceLeDiff, Nat.reduceSub, vaR, go_sem, ints, rows, rat, rats, ratsO, rtR, intsO, rowsO]
  simp -implicitDefEqProofs only [go_sem, evR, ints, rows, rat, rats, opR, Nat.reduceBEq, cellsV, noLk, readOK, readA, mergeR_at, not_true_eq_false, decide_true, decide_false]
  have hc21 := laws_heldStrategy_marks (avgR g n).1 1 hf02 hf03 (by omega) (by omega)
  (try simp only [gameT, stratT, claimT, gameO, stratO, claimO, nodes, nodesO, rows, rowsO, ints, intsO, ritO] at hc21)
  refine CallW.pure hc21 [42002] rfl Try.call41 ?_ (by first | trivial | simp [T.noSh, T.noShL, rat]) rfl ?_
  · simp -implicitDefEqProofs only [agR, Nat.reduceLeDiff, Nat.reduceSub, vaR, go_sem, ints, rows, rat, rats, ratsO, rtR, intsO, rowsO]
  simp -implicitDefEqProofs only [go_sem, evR, ints, rows, rat, rats, opR, Nat.reduceBEq, cellsV, noLk, readOK, readA, mergeR_at]
  refine ⟨fun h => absurd h (by omega), fun _ => ?_⟩
  have hc22 := laws_heldStrategy_marks (avgR g n).2.1 (1 + tot (avgR g n).1.2) hf12 hf13 (by omega) (by omega)
  (try simp only [gameT, stratT, claimT, gameO, stratO, claimO, nodes, nodesO, rows, rowsO, ints, intsO, ritO] at hc22)
  refine CallW.pure hc22 [47002] rfl Try.call41 ?_ (by first | trivial | simp [T.noSh, T.noShL, rat]) rfl ?_
  · simp -implicitDefEqProofs only [agR, Nat.reduceLeDiff, Nat.reduceSub, vaR, go_sem, ints, rows, rat, rats, ratsO, rtR, intsO, rowsO]
  simp -implicitDefEqProofs only [go_sem, evR, ints, rows, rat, rats, opR, Nat.reduceBEq, cellsV, noLk, readOK, readA, mergeR_at]
  exact ⟨fun h => absurd h (by omega), fun _ => trivial⟩
end
end Go.Ab

set_option linter.unusedSimpArgs false
set_option linter.unusedVariables false
namespace Go.Proofs.Ytkmmkgpnlmdcfaa
open Go.ChangeShapes Go.WideShapes Go.ChangeAt Go.RowKit Go.Ab

namespace fnExactAverageStrategies
theorem said : ∀ xs, wtL [tyGame, tyI] xs → Pure Try.prog 9 xs (.b true)
  | [x0, x1], h => by
    obtain ⟨g, rfl, hg⟩ := wt_game h.1
    obtain ⟨n, rfl, _⟩ := wt_int h.2.1
    exact laws_FnExactAverageStrategies_ok g hg n 
  | [], h => h.elim
  | [_], h => h.2.elim
  | _ :: _ :: _ :: _, h => h.2.2.elim

set_option maxRecDepth 100000 in
theorem lifted (os : Os) (started : os.Started) (H : Type) (enc : TypeId × Value → H) :
    ReturnsInHanded {} Try.checked os 9 .any (Rows.fnExactAverageStrategiesSpec.pre6 enc Try.prog Try.f9 Rows.fnExactAverageStrategiesRow.domain false) (Rows.fnExactAverageStrategiesSpec.post enc Try.prog Try.f9 false true false false) := by
  refine returnsInHanded_of_change (C := Try.checked) (by kernel_rfl) started (by kernel_rfl) Try.func9
    (ChangeSpec.witness6 (enc := enc) (C := Try.checked) false ⟨#[], #[.agg #[.slice none 0 0, .slice none 0 0, .slice none 0 0], .int .i64 0], []⟩ 8 (by kernel_rfl) (by kernel_rfl) (by kernel_rfl) (by kernel_rfl)) ?_
  intro W base args ds gs before hval hW _ _
  refine law_contract (tys := [tyGame, tyI]) (by kernel_rfl) (by kernel_rfl) rfl (by kernel_rfl) rfl (fun ds h => ?_) said W base args ds gs before hval hW
  match ds, h with
  | [d0, d1], _ => rfl

theorem andT {a b : Bool} (ha : a = true) (hb : b = true) : (a && b) = true := by rw [ha, hb]; rfl
theorem joined0 : ((Rows.fnExactAverageStrategiesRow.wf (OpenSpec.ofChange Rows.fnExactAverageStrategiesSpec))) = true := by kernel_rfl
theorem joined1 : (laidOutB Try.prog) = true := Try.laidOutT
theorem joined2 : (mapsRowed Try.prog) = true := Try.mapsRowedT
theorem joined3 : (Try.f9.params.all (Try.prog.readableRec ·)) = true := by kernel_rfl
theorem joined4 : (namedTie Try.prog Rows.fnExactAverageStrategiesRow.named Rows.fnExactAverageStrategiesSpec.vars) = true := by kernel_rfl
theorem joined5 : ((Rows.fnExactAverageStrategiesRow.stops == [])) = true := by kernel_rfl
theorem joined6 : ((Try.prog.stops == [])) = true := by kernel_rfl
theorem joined7 : ((Rows.fnExactAverageStrategiesRow.knobs == [])) = true := by kernel_rfl
theorem joined8 : ((Try.prog.stopKnobs == [])) = true := by kernel_rfl
theorem joined9 : ((Rows.fnExactAverageStrategiesRow.inPlace == Try.prog.inPlace 9)) = true := by kernel_rfl
theorem joined10 : ((Rows.fnExactAverageStrategiesRow.unfollowed == Try.prog.unfollowed 9)) = true := by kernel_rfl
theorem joined11 : ((Rows.fnExactAverageStrategiesRow.recurses == Try.prog.recurses 9)) = true := by kernel_rfl
theorem joined12 : ((Rows.fnExactAverageStrategiesRow.named == Try.prog.varsNamed 9)) = true := by kernel_rfl
theorem joined13 : ((Rows.fnExactAverageStrategiesRow.maps == (Try.f9.params.toList ++ Rows.fnExactAverageStrategiesSpec.plain.varTypes Try.prog).any (Try.prog.mapsRec ·))) = true := by kernel_rfl
theorem joined14 : ((Rows.fnExactAverageStrategiesRow.ifaces == (Try.f9.params.toList ++ Rows.fnExactAverageStrategiesSpec.plain.varTypes Try.prog).any (Try.prog.ifacesRec ·))) = true := by kernel_rfl
theorem joined15 : ((Rows.fnExactAverageStrategiesRow.mapsOut == Try.prog.mapsAmong Try.f9.resultTypes.toList)) = true := by kernel_rfl
theorem joined16 : ((Rows.fnExactAverageStrategiesRow.loops == (Try.f9.params.toList ++ Rows.fnExactAverageStrategiesSpec.plain.varTypes Try.prog).any (Try.prog.loopsFrom ·))) = true := by kernel_rfl
theorem joined17 : ((Rows.fnExactAverageStrategiesRow.wideKeys == (Try.f9.params.toList ++ Rows.fnExactAverageStrategiesSpec.plain.varTypes Try.prog ++ Try.f9.resultTypes.toList).any (Try.prog.wideKeysFrom ·))) = true := by kernel_rfl
theorem joined18 : (Rows.fnExactAverageStrategiesSpec.vars.all (Try.prog.varReadable ·)) = true := by kernel_rfl
theorem joined19 : (Try.f9.resultTypes.all (fun t => Try.prog.readableRec t && decide (t < Try.prog.types.size))) = true := by kernel_rfl
theorem joined20 : ((Rows.fnExactAverageStrategiesRow.ifacesOut == Try.f9.resultTypes.toList.any (Try.prog.ifacesRec ·))) = true := by kernel_rfl
theorem joined21 : ((Rows.fnExactAverageStrategiesRow.loopsOut == Try.f9.resultTypes.toList.any (Try.prog.loopsFrom ·))) = true := by kernel_rfl
theorem joined22 : ((Rows.fnExactAverageStrategiesRow.plainKeys == Try.prog.plainKeys)) = true := by kernel_rfl
theorem joined23 : (Rows.fnExactAverageStrategiesRow.shortTexts.isNone) = true := by kernel_rfl
theorem joined24 : (Try.prog.stopsHeard) = true := Try.heardT
theorem joined25 : (Try.prog.mayEnter) = true := Try.mayEnterT
theorem joined26 : ((Rows.fnExactAverageStrategiesRow.lifted == Try.prog.liftsFinal)) = true := (by rw [Try.liftsF]; rfl)
theorem joined27 : ((Try.prog.make == some Rows.fnExactAverageStrategiesRow.make)) = true := (by rw [Try.makeC]; rfl)
theorem joined28 : ((Rows.fnExactAverageStrategiesRow.kinds == (if Rows.fnExactAverageStrategiesRow.domain.isEmpty then [] else Try.f9.params.toList.map fun t => match Try.prog.underlying t with | some (.int k) => some k | _ => none))) = true := by kernel_rfl
theorem joined29 : ((Rows.fnExactAverageStrategiesRow.pinned == Rows.fnExactAverageStrategiesRow.pinnedBy)) = true := by kernel_rfl
theorem joined30 : ((Rows.fnExactAverageStrategiesRow.veiled == (Try.f9.params.toList ++ Rows.fnExactAverageStrategiesSpec.plain.varTypes Try.prog ++ Try.f9.resultTypes.toList).any (Try.prog.veiledRec ·))) = true := by kernel_rfl
theorem joined31 : (Rows.fnExactAverageStrategiesRow.veiledFits Try.prog Try.f9.params.toList (Try.f9.params.toList ++ Rows.fnExactAverageStrategiesSpec.plain.varTypes Try.prog ++ Try.f9.resultTypes.toList)) = true := by kernel_rfl
set_option maxRecDepth 100000 in
theorem joined : joinedFacts Try.prog 9 Try.f9 Rows.fnExactAverageStrategiesSpec Rows.fnExactAverageStrategiesRow = true := by
  unfold joinedFacts
  exact andT (andT (andT (andT (andT (andT (andT (andT (andT (andT (andT (andT (andT (andT (andT (andT (andT (andT (andT (andT (andT (andT (andT (andT (andT (andT (andT (andT (andT (andT (andT (joined0) joined1) joined2) joined3) joined4) joined5) joined6) joined7) joined8) joined9) joined10) joined11) joined12) joined13) joined14) joined15) joined16) joined17) joined18) joined19) joined20) joined21) joined22) joined23) joined24) joined25) joined26) joined27) joined28) joined29) joined30) joined31
theorem over : Rows.fnExactAverageStrategiesRow.holds Try.pinned (OpenSpec.ofChange Rows.fnExactAverageStrategiesSpec) :=
  OpenClaim.holds_of_wide 9 Try.f9 rfl rfl rfl rfl rfl rfl rfl ⟨rfl, rfl, rfl, rfl, rfl⟩ rfl rfl rfl rfl rfl (by kernel_rfl) Try.func9 joined
    (of_decide_eq_true (by kernel_rfl)) (by unfold Func.isWrapper; first | (rw [if_pos (by decide +kernel)]; kernel_rfl) | (rw [if_neg (by decide +kernel)]; exact ⟨rfl, rfl⟩))
    (fun os started H enc _ => lifted os started H enc)
end fnExactAverageStrategies

theorem fnExactAverageStrategies_holds : Rows.FnExactAverageStrategiesSaid := fnExactAverageStrategies.over
#print axioms fnExactAverageStrategies_holds
end Go.Proofs.Ytkmmkgpnlmdcfaa
