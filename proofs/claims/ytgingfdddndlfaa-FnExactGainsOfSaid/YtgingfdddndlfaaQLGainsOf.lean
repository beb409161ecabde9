/- The program's GainsOf returns what the reference's returns, for all arguments, and keeps its arguments (and its earlier result): the law FnExactGainsOf returns true for every input. No conditions. -/
import Derived.Test.YtgingfdddndlfaaRows
import Derived.Test.YtgingfdddndlfaaQ4
/- Contracts: best responses, the program's. -/
set_option linter.unusedSimpArgs false
set_option linter.unusedVariables false
namespace Go.Ab
open Go.Proofs

def rbox (g : Gm) (ot : List (List Int)) (pl : Int) (card : Int) (B : List (List Int)) : T := .box [nodes g.nd, rows g.w, rows g.v, .i pl, .i card, ints (ownL g pl), ints (ownL g (1 - pl)), rows ot, .i pl, rowsO B]
def uS (g : Gm) (pl : Int) (i own : Nat) (reach : List Int) (k : Nat) : Int := sumI ((List.range k).map fun c => reach.getD c 0 * payP g pl i own c)
theorem uS_succ (g : Gm) (pl : Int) (i own : Nat) (reach : List Int) (k : Nat) : uS g pl i own reach (k + 1) = uS g pl i own reach k + reach.getD k 0 * payP g pl i own k := by
  unfold uS
  rw [List.range_succ, List.map_append, List.map_cons, List.map_nil, sumI_snoc]
theorem uS_abs {g : Gm} {pl : Int} {i own : Nat} {reach : List Int} {p : Nat} (hp : payOK g) (h0 : ∀ x ∈ reach, 0 ≤ x) (hc : capOK reach p) (k : Nat) : -(k * capV) ≤ uS g pl i own reach k ∧ uS g pl i own reach k ≤ k * capV := by
  unfold uS
  refine sumI_range_abs fun c _ => ?_
  obtain ⟨h1, h2⟩ := payP_abs hp pl i own c
  exact (term_abs h0 hc (c := c) h1 h2).2
theorem payoffAt_t {g : Gm} (hg : isGameB g = true) (i a b : Nat) (hi : i < g.nd.length) (ha : a < g.w.length) (hb : b < g.w.length) : Pure Try.prog 158 [.agg [.sh 5 (chunk nodeC g.nd), .sh 1 (g.w.map ints), .sh 1 (g.v.map ints)], .i i, .i a, .i b] (.i (pay g i a b)) := impl_payoffAt_ok g hg i a b hi ha hb
theorem capOK_less {reach : List Int} {p : Nat} (h0 : ∀ x ∈ reach, 0 ≤ x) (hc : capOK reach (p + 1)) : capOK reach p := by
  have h1 := sumI_nonneg h0
  have h2 := Int.mul_le_mul_of_nonneg_left (pw_le (show p ≤ p + 1 by omega)) h1
  unfold capOK at hc ⊢
  omega
section
attribute [-go_sem] load1C load1V fldC lenC idxC loadNV nilCheckW
set_option maxRecDepth 20000 in
theorem impl_respond_ok {g : Gm} {ot : List (List Int)} {pl : Int} {own : Nat} (hg : isGameB g = true) (hpl : pl = 0 ∨ pl = 1) (hot : partsOK g ot (1 - pl)) (hown : own < g.w.length) : ∀ (f i : Nat) (reach : List Int) (p : Nat) (B : List (List Int)), g.nd.length ≤ i + f → i < g.nd.length → reach.length = g.w.length → (∀ x ∈ reach, 0 ≤ x) → dep g.nd f i ≤ p → p ≤ 5 → capOK reach p → rows4 (sets g pl).length B →
    Fun Try.prog 124 [rbox g ot pl own B] [.own 1000000000, .t (.i i), .t (ints reach), .t (.i p)] fun o r => o = [rbox g ot pl own (bestB g ot pl own f i reach p B)] ∧ r = .i (bestV g ot pl own f i reach p) := by
  obtain ⟨p1, p2, p3, p4, p5⟩ := isGameB_parts hg
  obtain ⟨t1, t2, t3, t4⟩ := isTreeB_spec p1
  have hpay := payOK_of t2
  have hcv : capV = 4199040000000 := rfl
  intro f
  induction f with
  | zero => intro i reach p B h1 h2; omega
  | succ f ih =>
    intro i reach p B hf hi hrl hr0 hdp hp5 hcap hBl
    obtain ⟨x, hx⟩ : ∃ x, g.nd[i]? = some x := ⟨_, List.getElem?_eq_getElem hi⟩
    have hxd : g.nd.getD i nd0 = x := by rw [List.getD_eq_getElem?_getD, hx]; rfl
    have hxl := (ndOK_fields (t2 _ _ hx)).2.2.2.2.2
    have hB2 : x.p = 2 → bestB g ot pl own (f + 1) i reach p B = B := fun h => by rw [bestB]; simp only [hxd]; rw [if_pos h]
    have hV2 : x.p = 2 → bestV g ot pl own (f + 1) i reach p = uS g pl i own reach reach.length * pw p := fun h => by rw [bestV]; simp only [hxd]; rw [if_pos h]; rfl
    have hB1 : x.p ≠ 2 → x.p = pl → bestB g ot pl own (f + 1) i reach p B = (x.ch.foldl (fun B c => bestB g ot pl own f c.toNat reach p B) B).set (setI g pl i own) ((List.replicate x.ch.length 0).set (argmax (x.ch.map fun c => bestV g ot pl own f c.toNat reach p)) 60) := fun h h' => by rw [bestB]; simp only [hxd]; rw [if_neg h, if_pos h']
    have hV1 : x.p ≠ 2 → x.p = pl → bestV g ot pl own (f + 1) i reach p = (x.ch.map fun c => bestV g ot pl own f c.toNat reach p).getD (argmax (x.ch.map fun c => bestV g ot pl own f c.toNat reach p)) 0 := fun h h' => by rw [bestV]; simp only [hxd]; rw [if_neg h, if_pos h']
    have hB0 : x.p ≠ 2 → x.p ≠ pl → bestB g ot pl own (f + 1) i reach p B = (List.range x.ch.length).foldl (fun B k => bestB g ot pl own f (x.ch.getD k 0).toNat (nextR g ot pl i reach k) (p - 1) B) B := fun h h' => by rw [bestB]; simp only [hxd]; rw [if_neg h, if_neg h']
    have hV0 : x.p ≠ 2 → x.p ≠ pl → bestV g ot pl own (f + 1) i reach p = sumI ((List.range x.ch.length).map fun k => bestV g ot pl own f (x.ch.getD k 0).toNat (nextR g ot pl i reach k) (p - 1)) := fun h h' => by rw [bestV]; simp only [hxd]; rw [if_neg h, if_neg h']
    generalize bestB g ot pl own (f + 1) i reach p B = B' at hB2 hB1 hB0 ⊢
    generalize bestV g ot pl own (f + 1) i reach p = V' at hV2 hV1 hV0 ⊢
    refine fun___impl_responder__respond_h (by simp) ?_
    simp -implicitDefEqProofs only [go_sem, evR, ints, rows, rat, rats, c___impl_responder__respond_h, rbox, nodes, nd_at hx]
    refine ⟨by omega, by rw [nd_len]; omega, by rw [nd_len]; omega, ?_⟩
    refine ⟨fun h2 => ?_, fun h2 => ?_⟩
    · have h2 : x.p = 2 := by simpa using h2
      rw [hB2 h2, hV2 h2]
      refine SemC.loopR (σ := Nat) (fun k => St.of [(0, .own 1000000000), (1, .t (.i i)), (2, .t (ints reach)), (3, .t (.i p)), (10, .t (.i (uS g pl i own reach k))), (38, .t (ints reach)), (39, .t (.i reach.length)), (40, .t (.i k))] [(1000000000, rbox g ot pl own B)]) (fun k => k ≤ reach.length) (fun k => reach.length - k) 0 (Weak.of _ _ [some 1000000000] (by simp) (by simp) ?_ ?_) (by omega) fun k hk R hn hr he => ?_
      · simp -implicitDefEqProofs only [ints, rows, Nat.reduceBEq, wkR, Nat.reduceEqDiff, ↓reduceIte, wrR, show uS g pl i own reach 0 = 0 by simp [uS, sumI]]
      · exact ⟨⟨_, rfl, .refl _⟩, rfl, trivial⟩
      · have m5 := uS_abs (pl := pl) (i := i) (own := own) hpay hr0 hcap k
        have m7 : (k : Int) * capV ≤ 6 * capV := Int.mul_le_mul_of_nonneg_right (by omega) (by decide)
        rcases Nat.lt_or_ge k reach.length with h9 | h9
        · obtain ⟨y, hy⟩ : ∃ y, reach[k]? = some y := ⟨_, List.getElem?_eq_getElem h9⟩
          have hyd : reach.getD k 0 = y := by rw [List.getD_eq_getElem?_getD, hy]; rfl
          obtain ⟨q1, q2⟩ := payP_abs hpay pl i own k
          obtain ⟨_, m3, m4⟩ := term_abs hr0 hcap (c := k) q1 q2
          have m6 := uS_succ g pl i own reach k
          rw [hyd] at m3 m4 m6
          simp -implicitDefEqProofs only [go_sem, evR, ints, rows, rat, rats, rbox, nodes, hy, decide_eq_true (show (k : Int) < (reach.length : Int) by omega)]
          refine ⟨by omega, by omega, by omega, fun h5 => ?_, fun h5 => ?_⟩
          · have h5 : pl = 0 := by simpa using h5
            have hP : payP g pl i own k = pay g i own k := by rw [payP, if_pos h5]
            rw [hP] at m3 m4 m6 q1 q2
            refine CallV.pure (payoffAt_t hg i own k hi hown (by omega)) [] rfl Try.call158 (fun e R' hR => ?_) (by first | trivial | simp [T.noSh, T.noShL, rat]) (fun _ => rfl) ?_
            · simp -implicitDefEqProofs only [agR, Nat.reduceLeDiff, Nat.reduceSub, vaR, go_sem, ints, rows, rat, rats, ratsO, rtR, intsO, rowsO]
            simp -implicitDefEqProofs only [go_sem, evR, ints, rows, rat, rats]
            refine hn _ (k + 1) (Weak.of _ _ [some 1000000000] (by simp) (by simp) ?_ ?_) (by omega) (by omega)
            · simp -implicitDefEqProofs only [ints, rows, Nat.reduceBEq, wkR, Nat.reduceEqDiff, ↓reduceIte, wrR, rbox, nodes, next64 h9 (by omega), wrap64 (n := y * pay g i own k) (by omega) (by omega), ← m6, wrap64 (n := uS g pl i own reach (k + 1)) (by omega) (by omega)]
            · exact ⟨⟨_, rfl, .refl _⟩, rfl, trivial⟩
          · have h5 : ¬ pl = 0 := by simpa using h5
            have hP : payP g pl i own k = -pay g i k own := by rw [payP, if_neg h5]
            rw [hP] at m3 m4 m6 q1 q2
            rw [Int.mul_neg] at m3 m4 m6
            refine CallV.pure (payoffAt_t hg i k own hi (by omega) hown) [] rfl Try.call158 (fun e R' hR => ?_) (by first | trivial | simp [T.noSh, T.noShL, rat]) (fun _ => rfl) ?_
            · simp -implicitDefEqProofs only [agR, Nat.reduceLeDiff, Nat.reduceSub, vaR, go_sem, ints, rows, rat, rats, ratsO, rtR, intsO, rowsO]
            simp -implicitDefEqProofs only [go_sem, evR, ints, rows, rat, rats]
            refine hn _ (k + 1) (Weak.of _ _ [some 1000000000] (by simp) (by simp) ?_ ?_) (by omega) (by omega)
            · simp -implicitDefEqProofs only [ints, rows, Nat.reduceBEq, wkR, Nat.reduceEqDiff, ↓reduceIte, wrR, rbox, nodes, next64 h9 (by omega), wrap64 (n := y * pay g i k own) (by omega) (by omega), Int.sub_eq_add_neg, ← m6, wrap64 (n := uS g pl i own reach (k + 1)) (by omega) (by omega)]
            · exact ⟨⟨_, rfl, .refl _⟩, rfl, trivial⟩
        · simp -implicitDefEqProofs only [go_sem, evR, ints, rows, rat, rats, rbox, nodes, decide_eq_false (show ¬ (k : Int) < (reach.length : Int) by omega)]
          refine he _ _ ?_
          simp -implicitDefEqProofs only [go_sem, evR, ints, rows, rat, rats]
          have hke : k = reach.length := by omega
          have m8 := tS_abs (pl := pl) (i := i) (own := own) hpay hr0 hcap reach.length
          have m9 : (reach.length : Int) * capV ≤ 6 * capV := Int.mul_le_mul_of_nonneg_right (by omega) (by decide)
          have m10 : tS g pl i own reach p reach.length = uS g pl i own reach reach.length * pw p := rfl
          refine CallW.pure (impl_powerOf_ok p (by omega)) [] rfl Try.call127 ?_ (by first | trivial | simp [T.noSh, T.noShL, rat]) rfl ?_
          · simp -implicitDefEqProofs only [agR, Nat.reduceLeDiff, Nat.reduceSub, vaR, go_sem, ints, rows, rat, rats, ratsO, rtR, intsO, rowsO]
          simp -implicitDefEqProofs only [go_sem, evR, ints, rows, rat, rats]
          rw [hke, wrap64 (n := uS g pl i own reach reach.length * pw p) (by omega) (by omega)]
    have h2 : x.p ≠ 2 := by simpa using h2
    have hp2 : (g.nd.getD i nd0).p ≠ 2 := by rw [hxd]; exact h2
    obtain ⟨d1, d2⟩ := dep_child (f := f) hp2
    rw [hxd] at d2
    have hch := ndOK_child (t2 _ _ hx)
    have hset : setI g pl i own = (idxs g.nd pl i).length * g.w.length + own := rfl
    have hp1 : 1 ≤ p := by omega
    obtain ⟨p', rfl⟩ : ∃ p', p = p' + 1 := ⟨p - 1, by omega⟩
    have hcapl := capOK_less hr0 hcap
    refine ⟨fun h3 => ?_, fun h3 => ?_⟩
    · have h3 : x.p = pl := by simpa using h3
      have hpd : (g.nd.getD i nd0).p = pl := by rw [hxd]; exact h3
      have hVm : (x.ch.map fun c => bestV g ot pl own f c.toNat reach (p' + 1)) = (x.ch.map fun c => bestV g ot pl own f c.toNat reach p').map fun x => 60 * x := by
        rw [List.map_map]
        exact List.map_congr_left fun c hc => bestV_scale f c.toNat reach p' (by have := d2 c hc; omega)
      have hBm : (x.ch.foldl (fun B c => bestB g ot pl own f c.toNat reach (p' + 1) B) B) = x.ch.foldl (fun B c => bestB g ot pl own f c.toNat reach p' B) B := foldl_congr' _ _ fun B c hc => bestB_scale f c.toNat reach p' B (by have := d2 c hc; omega)
      have hB1 := hB1 h2 h3
      have hV1 := hV1 h2 h3
      rw [hVm, argmax_scale, getD_map60] at hV1
      rw [hVm, argmax_scale, hBm] at hB1
      generalize hF : (fun (B : List (List Int)) (c : Int) => bestB g ot pl own f c.toNat reach p' B) = F at hB1
      generalize hvs : (x.ch.map fun c => bestV g ot pl own f c.toNat reach p') = vs at hB1 hV1
      have hvl : vs.length = x.ch.length := by rw [← hvs, List.length_map]
      have hvb : ∀ y ∈ vs, -capV ≤ y ∧ y ≤ capV := fun y hy => by
        rw [← hvs] at hy
        obtain ⟨c, hcm, rfl⟩ := List.mem_map.1 hy
        have hcb := hch c hcm
        have hcd := d2 c hcm
        exact bestV_cap t2 hpl hot (by omega) hrl hr0 (by omega) hcapl
      rw [hB1, hV1]
      refine SemC.loopR (σ := Nat) (fun k => St.of [(0, .own 1000000000), (1, .t (.i i)), (2, .t (ints reach)), (3, .t (.i (p' + 1 : Nat))), (9, .own 9), (13, .t (.i (argmax.go k vs))), (14, .t (.i (cntA vs k))), (92, .t (ints x.ch)), (93, .t (.i x.ch.length)), (94, .t (.i k))] [(9, .box [.i x.p, .i x.a, .i x.b, .i x.f, ints x.ch]), (1000000000, rbox g ot pl own ((x.ch.take k).foldl F B))]) (fun k => k ≤ x.ch.length) (fun k => x.ch.length - k) 0 (Weak.of _ _ [some 9, some 1000000000] (by simp) (by simp) ?_ ?_) (by omega) fun k hk R hn hr he => ?_
      · simp -implicitDefEqProofs only [ints, rows, Nat.reduceBEq, wkR, Nat.reduceEqDiff, ↓reduceIte, wrR, show cntA vs 0 = 0 from rfl, show argmax.go 0 vs = 0 from rfl]
      · exact ⟨⟨_, rfl, .refl _⟩, rfl, ⟨_, rfl, .refl _⟩, rfl, trivial⟩
      · rcases Nat.lt_or_ge k x.ch.length with h9 | h9
        · obtain ⟨c, hc⟩ : ∃ c, x.ch[k]? = some c := ⟨_, List.getElem?_eq_getElem h9⟩
          have hcm := List.mem_of_getElem? hc
          have hcb := hch c hcm
          have hcd := d2 c hcm
          have hrow : rows4 (sets g pl).length ((x.ch.take k).foldl F B) := by
            refine foldl_inv (rows4 (sets g pl).length) _ _ hBl fun B' c' _ hB' => ?_
            rw [← hF]; exact bestB_rows t2 f _ _ _ _ hB'
          have hcall := ih c.toNat reach p' ((x.ch.take k).foldl F B) (by omega) (by omega) hrl hr0 (by omega) (by omega) hcapl hrow
          rw [show ((c.toNat : Nat) : Int) = c by omega, show bestB g ot pl own f c.toNat reach p' ((x.ch.take k).foldl F B) = (x.ch.take (k + 1)).foldl F B by rw [foldl_snoc F x.ch B hc, ← hF]] at hcall
          have hvk : vs[k]? = some (bestV g ot pl own f c.toNat reach p') := by rw [← hvs, List.getElem?_map, hc]; rfl
          obtain ⟨g1, g2⟩ := go_take hvk
          generalize bestV g ot pl own f c.toNat reach p' = n at hcall hvk g1 g2
          simp only [rbox, nodes, rows, ints] at hcall
          simp -implicitDefEqProofs only [go_sem, evR, ints, rows, rat, rats, rbox, nodes, hc, decide_eq_true (show (k : Int) < (x.ch.length : Int) by omega)]
          refine ⟨by omega, by omega, by omega, ?_⟩
          rw [wrap64 (n := ((p' + 1 : Nat) : Int) - 1) (by omega) (by omega), show ((p' + 1 : Nat) : Int) - 1 = (p' : Int) by omega]
          refine CallW.ref hcall [1000000000] [] rfl Try.call124 (by simp) ?_ (by simp) ?_ (.inl rfl) ?_
          · simp -implicitDefEqProofs only [srR, Nat.reduceEqDiff, ↓reduceIte, ints, rows, intsO, rowsO]
          · simp -implicitDefEqProofs only [agR, Nat.reduceLeDiff, Nat.reduceSub, vaR, go_sem, ints, rows, rat, rats, ratsO, rtR, intsO, rowsO]
          simp -implicitDefEqProofs only [clR, Nat.reduceLeDiff, go_sem, evR, rat]
          refine ⟨fun h0 => ⟨fun h1 => ?_, fun h1 => ?_⟩, fun h0 => ?_⟩
          · rw [if_pos (.inr h1)] at g1 g2
            refine hn _ (k + 1) (Weak.of _ _ [some 9, some 1000000000] (by simp) (by simp) ?_ ?_) (by omega) (by omega)
            · simp -implicitDefEqProofs only [ints, rows, Nat.reduceBEq, wkR, Nat.reduceEqDiff, ↓reduceIte, wrR, next64 h9 (by omega), g1, g2]
            · exact ⟨⟨_, rfl, .refl _⟩, rfl, ⟨_, rfl, .refl _⟩, rfl, trivial⟩
          · rw [if_neg (by rintro (h | h); (· rw [h] at h0; simp at h0); (· exact h1 h))] at g1 g2
            refine hn _ (k + 1) (Weak.of _ _ [some 9, some 1000000000] (by simp) (by simp) ?_ ?_) (by omega) (by omega)
            · simp -implicitDefEqProofs only [ints, rows, Nat.reduceBEq, wkR, Nat.reduceEqDiff, ↓reduceIte, wrR, next64 h9 (by omega), g1, g2]
            · exact ⟨⟨_, rfl, .refl _⟩, rfl, ⟨_, rfl, .refl _⟩, rfl, trivial⟩
          · rw [if_pos (.inl (by simpa using h0))] at g1 g2
            refine hn _ (k + 1) (Weak.of _ _ [some 9, some 1000000000] (by simp) (by simp) ?_ ?_) (by omega) (by omega)
            · simp -implicitDefEqProofs only [ints, rows, Nat.reduceBEq, wkR, Nat.reduceEqDiff, ↓reduceIte, wrR, next64 h9 (by omega), g1, g2]
            · exact ⟨⟨_, rfl, .refl _⟩, rfl, ⟨_, rfl, .refl _⟩, rfl, trivial⟩
        · simp -implicitDefEqProofs only [go_sem, evR, ints, rows, rat, rats, rbox, nodes, decide_eq_false (show ¬ (k : Int) < (x.ch.length : Int) by omega)]
          refine he _ _ ?_
          simp -implicitDefEqProofs only [go_sem, evR, ints, rows, rat, rats, rbox, nodes]
          have hke : k = x.ch.length := by omega
          have hcl1 : 1 ≤ x.ch.length := ((ndOK_fields (t2 _ _ hx)).2.2.2.2.1 h2).2
          have hgl := argmax_go_lt vs k (by omega)
          have hge : argmax.go k vs = argmax vs := by rw [argmax_eq, hvl, hke]
          rw [made_one, List.length_replicate]
          refine ⟨by omega, by omega, by omega, by omega, by omega, ?_⟩
          rw [show x.ch.take k = x.ch by rw [hke, List.take_length]]
          have hrowA : rows4 (sets g pl).length (x.ch.foldl F B) := by
            refine foldl_inv (rows4 (sets g pl).length) _ _ hBl fun B' c' _ hB' => ?_
            rw [← hF]; exact bestB_rows t2 f _ _ _ _ hB'
          have hslt := setI_lt (pl := pl) hi hown hpd
          have hsl := sets_len g pl t1.2 p2.2
          have hrl1 := hrowA.1
          have hoi := ownL_get hi hpd
          have hol := ownL_length g pl
          refine ⟨_, Weak.open 1000000000 9 500 rfl rfl rfl (by decide) rfl, ?_⟩
          simp -implicitDefEqProofs only [go_sem, evR, ints, rows, rat, rats, List.lookup_cons, beq_self_eq_true, Nat.reduceBEq, rowsO, hoi, wrap64 (n := ((setI g pl i own : Nat) : Int)) (by omega) (by omega), show (((idxs g.nd pl i).length * g.w.length : Nat) : Int) + (own : Int) = ((setI g pl i own : Nat) : Int) by omega]
          refine ⟨by omega, by omega, by omega, by omega, by omega, by omega, ?_⟩
          refine ⟨_, Weak.join2 Try.prog tyOne (sl 125) (sl 126) rfl rfl rfl rfl (by decide) (by simp), ?_⟩
          simp -implicitDefEqProofs only [go_sem, evR, ints, rows, rat, rats]
          have hcn : cntA vs k = vs.getD (argmax vs) 0 := by rw [cntA, if_neg (by omega), hge]
          have hvm : -capV ≤ vs.getD (argmax vs) 0 ∧ vs.getD (argmax vs) 0 ≤ capV := hvb _ (getD_mem 0 (by omega))
          refine ⟨?_, ?_⟩
          · rw [List.map_set, intsO, List.map_set, List.map_replicate, hge]
          · rw [hcn, wrap64 (n := vs.getD (argmax vs) 0 * 60) (by omega) (by omega), Int.mul_comm]
    · have h3 : x.p ≠ pl := by simpa using h3
      have hpo : x.p = 1 - pl := by
        obtain ⟨⟨q1, q2⟩, _⟩ := ndOK_fields (t2 _ _ hx)
        omega
      have hpd : (g.nd.getD i nd0).p = 1 - pl := by rw [hxd]; exact hpo
      generalize hF : (fun (B : List (List Int)) (k : Nat) => bestB g ot pl own f (x.ch.getD k 0).toNat (nextR g ot pl i reach k) (p' + 1 - 1) B) = F at hB0
      generalize hG : (fun k => bestV g ot pl own f (x.ch.getD k 0).toNat (nextR g ot pl i reach k) (p' + 1 - 1)) = G at hV0
      rw [hB0 h2 h3, hV0 h2 h3]
      refine SemC.loopR (σ := Nat) (fun k => St.of [(0, .own 1000000000), (1, .t (.i i)), (2, .t (ints reach)), (3, .t (.i (p' + 1 : Nat))), (19, .t (.i (sumI ((List.range k).map G)))), (144, .t (ints x.ch)), (145, .t (.i x.ch.length)), (146, .t (.i k))] [(1000000000, rbox g ot pl own ((List.range k).foldl F B))]) (fun k => k ≤ x.ch.length) (fun k => x.ch.length - k) 0 (Weak.of _ _ [some 1000000000] (by simp) (by simp) ?_ ?_) (by omega) fun k hk R hn hr he => ?_
      · simp -implicitDefEqProofs only [ints, rows, Nat.reduceBEq, wkR, Nat.reduceEqDiff, ↓reduceIte, wrR, List.range_zero, List.map_nil, show sumI [] = 0 from rfl]
      · exact ⟨⟨_, rfl, .refl _⟩, rfl, trivial⟩
      · rcases Nat.lt_or_ge k x.ch.length with h9 | h9
        · obtain ⟨c, hc⟩ : ∃ c, x.ch[k]? = some c := ⟨_, List.getElem?_eq_getElem h9⟩
          simp -implicitDefEqProofs only [go_sem, evR, ints, rows, rat, rats, rbox, nodes, hc, made_one, decide_eq_true (show (k : Int) < (x.ch.length : Int) by omega)]
          have hnl : (nextR g ot pl i reach k).length = reach.length := nextR_length _ _ _ _ _ _
          refine ⟨by omega, by omega, by omega, by omega, by omega, ?_⟩
          refine SemC.loopR (σ := Nat) (fun b => St.of [(0, .own 1000000000), (1, .t (.i i)), (2, .t (ints reach)), (3, .t (.i (p' + 1 : Nat))), (19, .t (.i (sumI ((List.range k).map G)))), (20, .t (.i k)), (21, .t (.i c)), (22, .own 77), (144, .t (ints x.ch)), (145, .t (.i x.ch.length)), (146, .t (.i k)), (154, .t (ints reach)), (155, .t (.i reach.length)), (156, .t (.i b))] [(77, .arr 1 (filled (nextR g ot pl i reach k) T.i (.i 0) b)), (1000000000, rbox g ot pl own ((List.range k).foldl F B))]) (fun b => b ≤ reach.length) (fun b => reach.length - b) 0 (Weak.of _ _ [some 153, some 1000000000] (by simp) (by simp) ?_ ?_) (by omega) fun b hb R2 hn2 hr2 he2 => ?_
          · simp -implicitDefEqProofs only [ints, rows, Nat.reduceBEq, wkR, Nat.reduceEqDiff, ↓reduceIte, wrR, rbox, nodes]
          · refine ⟨⟨_, rfl, ?_⟩, rfl, ⟨_, rfl, .refl _⟩, rfl, trivial⟩
            rw [filled_zero, hnl]; exact .refl _
          · have hfl := filled_length (nextR g ot pl i reach k) T.i (.i 0) b (by omega)
            rcases Nat.lt_or_ge b reach.length with h8 | h8
            · obtain ⟨y, hy⟩ : ∃ y, reach[b]? = some y := ⟨_, List.getElem?_eq_getElem h8⟩
              obtain ⟨o1, o2, o3⟩ := hot i b hi (by omega) hpd
              obtain ⟨r, hr1⟩ : ∃ r, ot[setI g (1 - pl) i b]? = some r := by
                cases h : ot[setI g (1 - pl) i b]? with
                | some r => exact ⟨r, rfl⟩
                | none =>
                  rw [partsOf, List.getD_eq_getElem?_getD, h, hxd] at o1
                  simp at o1
                  omega
              have hrp : partsOf g ot (1 - pl) i b = r := by rw [partsOf, List.getD_eq_getElem?_getD, hr1]; rfl
              rw [hrp] at o1 o2
              rw [hxd] at o1
              obtain ⟨y2, hy2⟩ : ∃ y2, r[k]? = some y2 := ⟨_, List.getElem?_eq_getElem (by omega)⟩
              have hy2b := o2 y2 (List.mem_of_getElem? hy2)
              have hslt := (List.getElem?_eq_some_iff.1 hr1).1
              have hyb : 0 ≤ y ∧ y ≤ 41990400000 := by
                have h1 := reach_pos hr0 b
                rw [List.getD_eq_getElem?_getD, hy] at h1
                have h2 := pw_pos p'
                have h3 := sumI_nonneg hr0
                have h4 := Int.mul_le_mul_of_nonneg_left (show (1 : Int) ≤ pw p' by omega) h3
                unfold capOK at hcapl
                simp only [Option.getD_some] at h1
                omega
              have hm1 := Int.mul_nonneg hyb.1 hy2b.1
              have hm2 : y * y2 ≤ 41990400000 * 60 := Int.mul_le_mul hyb.2 hy2b.2 hy2b.1 (by decide)
              have hnx : (nextR g ot pl i reach k)[b]? = some (y * y2) := by
                rw [nextR, List.getElem?_map, List.getElem?_range (by omega), Option.map_some, hrp, List.getD_eq_getElem?_getD, hy, List.getD_eq_getElem?_getD, hy2]; rfl
              have hoi := ownL_get hi hpd
              have hol := ownL_length g (1 - pl)
              have hset : setI g (1 - pl) i b = (idxs g.nd (1 - pl) i).length * g.w.length + b := rfl
              have hsl := sets_len g (1 - pl) t1.2 p2.2
              have hsi := setI_lt (g := g) (pl := 1 - pl) hi (show b < g.w.length by omega) hpd
              simp -implicitDefEqProofs only [go_sem, evR, ints, rows, rat, rats, rbox, nodes, hy, hoi, hr1, hy2, hfl, decide_eq_true (show (b : Int) < (reach.length : Int) by omega), wrap64 (n := ((setI g (1 - pl) i b : Nat) : Int)) (by omega) (by omega), show (((idxs g.nd (1 - pl) i).length * g.w.length : Nat) : Int) + (b : Int) = ((setI g (1 - pl) i b : Nat) : Int) by omega]
              refine ⟨by omega, by omega, by omega, by omega, by omega, by omega, by omega, by omega, by omega, by omega, by omega, by omega, by omega, by omega, by omega, hn2 _ (b + 1) (Weak.of _ _ [some 77, some 1000000000] (by simp) (by simp) ?_ ?_) (by omega) (by omega)⟩
              · simp -implicitDefEqProofs only [ints, rows, Nat.reduceBEq, wkR, Nat.reduceEqDiff, ↓reduceIte, wrR, rbox, nodes, next64 h8 (by omega)]
              · refine ⟨⟨_, rfl, ?_⟩, rfl, ⟨_, rfl, .refl _⟩, rfl, trivial⟩
                rw [wrap64 (n := y * y2) (by omega) (by omega), filled_set hnx]; exact .refl _
            · simp -implicitDefEqProofs only [go_sem, evR, ints, rows, rat, rats, rbox, nodes, decide_eq_false (show ¬ (b : Int) < (reach.length : Int) by omega)]
              refine he2 _ _ ?_
              simp -implicitDefEqProofs only [go_sem, evR, ints, rows, rat, rats, rbox, nodes]
              have hbl : b = (nextR g ot pl i reach k).length := by omega
              rw [hbl, filled_all]
              refine ⟨_, Weak.trans (Weak.share 77 rfl) (Weak.of [(0, .own 1000000000), (1, .t (.i i)), (2, .t (ints reach)), (3, .t (.i (p' + 1 : Nat))), (19, .t (.i (sumI ((List.range k).map G)))), (20, .t (.i k)), (21, .t (.i c)), (22, .t (ints (nextR g ot pl i reach k))), (144, .t (ints x.ch)), (145, .t (.i x.ch.length)), (146, .t (.i k))] [(1000000000, rbox g ot pl own ((List.range k).foldl F B))] [some 1000000000] (by simp) (by simp) ?_ ?_), ?_⟩
              · simp -implicitDefEqProofs only [ints, rows, Nat.reduceBEq, wkR, Nat.reduceEqDiff, ↓reduceIte, wrR, shareA, rbox, nodes, T.toSh, T.toShL_eq_map, List.map_map]
                exact .inr (.inl rfl)
              · exact ⟨⟨_, rfl, .refl _⟩, rfl, trivial⟩
              · simp -implicitDefEqProofs only [go_sem, evR, ints, rows, rat, rats, rbox, nodes, hc]
                have hcm := List.mem_of_getElem? hc
                have hcb := hch c hcm
                have hcd := d2 c hcm
                have hcd0 : x.ch.getD k 0 = c := by rw [List.getD_eq_getElem?_getD, hc]; rfl
                have hch1 : ∀ j, j < x.ch.length → -capV ≤ G j ∧ G j ≤ capV := fun j hj => by
                  have hmj := getD_mem (0 : Int) hj
                  have hjb := hch _ hmj
                  have hjd := d2 _ hmj
                  rw [← hG]
                  exact bestV_cap t2 hpl hot (by omega) (by rw [nextR_length]; exact hrl) (nextR_nonneg hot hi hrl hpd hr0 j) (by omega) (capOK_next hot hi hrl hpd hr0 hcap (by rw [hxd]; exact hj))
                have hs1 := sumI_range_abs (G := G) (c := capV) (n := k) fun j hj => hch1 j (by omega)
                have hs2 := hch1 k h9
                have hk4 : (k : Int) * capV ≤ 4 * capV := Int.mul_le_mul_of_nonneg_right (by omega) (by decide)
                have hrow : rows4 (sets g pl).length ((List.range k).foldl F B) := by
                  refine foldl_inv (rows4 (sets g pl).length) _ _ hBl fun B' c' _ hB' => ?_
                  rw [← hF]; exact bestB_rows t2 f _ _ _ _ hB'
                have hcall := ih c.toNat (nextR g ot pl i reach k) p' ((List.range k).foldl F B) (by omega) (by omega) (by omega) (nextR_nonneg hot hi hrl hpd hr0 k) (by omega) (by omega) (capOK_next hot hi hrl hpd hr0 hcap (by rw [hxd]; omega)) hrow
                rw [show ((c.toNat : Nat) : Int) = c by omega, show bestB g ot pl own f c.toNat (nextR g ot pl i reach k) p' ((List.range k).foldl F B) = (List.range (k + 1)).foldl F B by rw [List.range_succ, List.foldl_append, ← hF, List.foldl_cons, List.foldl_nil]; simp only [hcd0, Nat.add_sub_cancel], show bestV g ot pl own f c.toNat (nextR g ot pl i reach k) p' = G k by rw [← hG]; simp only [hcd0, Nat.add_sub_cancel]] at hcall
                have hsg : sumI ((List.range (k + 1)).map G) = sumI ((List.range k).map G) + G k := by rw [List.range_succ, List.map_append, List.map_cons, List.map_nil, sumI_snoc]
                simp only [rbox, nodes, rows, ints] at hcall
                rw [wrap64 (n := ((p' + 1 : Nat) : Int) - 1) (by omega) (by omega), show ((p' + 1 : Nat) : Int) - 1 = (p' : Int) by omega]
                refine CallW.ref hcall [1000000000] [] rfl Try.call124 (by simp) ?_ (by simp) ?_ (.inl rfl) ?_
                · simp -implicitDefEqProofs only [srR, Nat.reduceEqDiff, ↓reduceIte, ints, rows, intsO, rowsO]
                · simp -implicitDefEqProofs only [agR, Nat.reduceLeDiff, Nat.reduceSub, vaR, go_sem, ints, rows, rat, rats, ratsO, rtR, intsO, rowsO]
                simp -implicitDefEqProofs only [clR, Nat.reduceLeDiff, go_sem, evR, rat]
                refine hn _ (k + 1) (Weak.of _ _ [some 1000000000] (by simp) (by simp) ?_ ?_) (by omega) (by omega)
                · simp -implicitDefEqProofs only [ints, rows, Nat.reduceBEq, wkR, Nat.reduceEqDiff, ↓reduceIte, wrR, rbox, nodes, next64 h9 (by omega), hsg, wrap64 (n := sumI ((List.range k).map G) + G k) (by omega) (by omega)]
                · refine ⟨⟨_, rfl, ?_⟩, rfl, trivial⟩
                  rw [List.range_succ]; exact .refl _
        · simp -implicitDefEqProofs only [go_sem, evR, ints, rows, rat, rats, rbox, nodes, decide_eq_false (show ¬ (k : Int) < (x.ch.length : Int) by omega)]
          refine he _ _ ?_
          simp -implicitDefEqProofs only [go_sem, evR, ints, rows, rat, rats]
          rw [show k = x.ch.length by omega]
          exact ⟨rfl, rfl⟩
end
end Go.Ab

/- Contracts: the best number and the first best response, the program's. -/
set_option linter.unusedSimpArgs false
set_option linter.unusedVariables false
namespace Go.Ab
open Go.Proofs

theorem idxs_lt' {l : List Nd} {pl : Int} {j : Nat} {y : Int} (h : (idxs l pl l.length)[j]? = some y) : ∃ i : Nat, y = i ∧ i < l.length := by
  obtain ⟨i, h1, h2, _⟩ := idxs_mem (List.mem_of_getElem? h)
  exact ⟨i, h1, h2⟩
theorem mergeR_at (m : List Nat) (R R' : Nat → Root) (r : Nat) : mergeR m R R' r = if m.any (fun d => decide (r = d) || decide (r / 1000 = d + 1)) then R r else R' r := rfl
def rbox0 (g : Gm) (ot : List (List Int)) (pl : Int) (a b : List Int) : T := .box [nodes g.nd, rows g.w, rows g.v, .i pl, .i 0, intsO a, intsO b, rows ot, .i 0, .v (.slice none 0 0)]
def rbox1 (g : Gm) (ot : List (List Int)) (pl : Int) (B : List (List Int)) : T := .box [nodes g.nd, rows g.w, rows g.v, .i pl, .any, ints (ownL g pl), ints (ownL g (1 - pl)), rows ot, .i pl, rowsO B]
section
attribute [-go_sem] load1C load1V fldC lenC idxC loadNV nilCheckW
set_option maxRecDepth 20000 in
theorem impl_bestAgainst_ok {g : Gm} {ot : List (List Int)} {pl : Int} (hg : isGameB g = true) (hpl : pl = 0 ∨ pl = 1) (hot : partsOK g ot (1 - pl)) : Fun Try.prog 76 [] [.t (gameT g), .t (stratT (1 - pl, ot))] fun o r => o = [] ∧ r = runT g ot pl := by
  obtain ⟨p1, p2, p3, p4, p5⟩ := isGameB_parts hg
  obtain ⟨t1, t2, t3, t4⟩ := isTreeB_spec p1
  obtain ⟨u1, u2, u3, u4, u5, u6, u7⟩ := game_unit hg
  have hsl := sets_len g pl t1.2 p2.2
  have hsl2 := sets_length g pl
  have hrv := runV_abs (n := g.w.length) hg hpl hot
  have hil := idxs_length g.nd pl g.nd.length
  have hil2 := idxs_length g.nd (1 - pl) g.nd.length
  have hmul : ∀ n : Nat, n ≤ g.nd.length → n * g.w.length ≤ 60 * 6 := fun n hn => Nat.mul_le_mul (by omega) p2.2
  refine fun_impl_bestAgainst_h (by simp) ?_
  simp -implicitDefEqProofs only [go_sem, evR, ints, rows, rat, rats, c_impl_bestAgainst_h, gameT, stratT, nodes, made_one]
  rw [wrap64 (n := 1 - (1 - pl)) (by omega) (by omega), show 1 - (1 - pl) = pl by omega]
  refine ⟨by omega, by omega, by omega, by omega, ?_⟩
  refine ⟨?_, ((frameOK.refl _ _ _).upd _ (.inl (by simp))).upd _ (.inl (by simp))⟩
  simp -implicitDefEqProofs only [go_sem, evR, ints, rows, rat, rats, mergeR_at]
  have hoL : ∀ q, ownL g q = fillN (idxs g.nd q g.nd.length) g.w.length g.nd.length (idxs g.nd q g.nd.length).length := fun q => rfl
  have hfl : ∀ q j, (fillN (idxs g.nd q g.nd.length) g.w.length g.nd.length j).length = g.nd.length := fun q j => fillN_length _ _ _ _
  have hfs : ∀ q j (n : Nat), (idxs g.nd q g.nd.length)[j]? = some (n : Int) → fillN (idxs g.nd q g.nd.length) g.w.length g.nd.length (j + 1) = (fillN (idxs g.nd q g.nd.length) g.w.length g.nd.length j).set n ((j * g.w.length : Nat) : Int) := fun q j n h => by
    rw [fillN, List.getD_eq_getElem?_getD, h]; rfl
  refine CallW.res (impl_nodesOf_t g.nd pl (by omega)) [] rfl Try.call123 ?_ (.inl rfl) ?_
  · simp -implicitDefEqProofs only [agR, Nat.reduceLeDiff, Nat.reduceSub, vaR, go_sem, ints, rows, rat, rats, ratsO, rtR, intsO, rowsO]
  simp -implicitDefEqProofs only [clR, Nat.reduceLeDiff, go_sem, evR, rat, intsO, mergeR_at]
  refine SemC.loopR (σ := Nat) (fun j => St.of [(2, .own 2), (3, .own 3), (5, .own 5), (6, .own 6), (7, .t (.i g.w.length)), (42, .own 42), (43, .t (.i (idxs g.nd pl g.nd.length).length)), (44, .t (.i j))] [(2, .box [nodes g.nd, rows g.w, rows g.v]), (3, .box [.i (1 - pl), rows ot]), (5, .box [.i 0, .v (.slice none 0 0)]), (6, rbox0 g ot pl (fillN (idxs g.nd pl g.nd.length) g.w.length g.nd.length j) (List.replicate g.nd.length 0)), (42, intsO (idxs g.nd pl g.nd.length))]) (fun j => j ≤ (idxs g.nd pl g.nd.length).length) (fun j => (idxs g.nd pl g.nd.length).length - j) 0 (Weak.of _ _ [some 2, some 3, some 5, some 6, some 42] (by simp) (by simp) ?_ ?_) (by omega) fun j hj R hn hr he => ?_
  · simp -implicitDefEqProofs only [ints, rows, Nat.reduceBEq, wkR, Nat.reduceEqDiff, ↓reduceIte, wrR, nodes, mergeR_at]
  · refine ⟨⟨_, rfl, .refl _⟩, rfl, ⟨_, rfl, .refl _⟩, rfl, ⟨_, rfl, .refl _⟩, rfl, ⟨_, rfl, ?_⟩, rfl, ⟨_, rfl, .refl _⟩, rfl, trivial⟩
    have e : T.arr 1 (List.replicate g.nd.length (T.v (Value.int IntKind.i64 0))) = intsO (List.replicate g.nd.length 0) := by rw [intsO, List.map_replicate]
    rw [e]; exact .refl _
  · rcases Nat.lt_or_ge j (idxs g.nd pl g.nd.length).length with h9 | h9
    · obtain ⟨y, hy⟩ : ∃ y, (idxs g.nd pl g.nd.length)[j]? = some y := ⟨_, List.getElem?_eq_getElem h9⟩
      obtain ⟨n, rfl, hn1⟩ := idxs_lt' hy
      have hjm := hmul j (by omega)
      simp -implicitDefEqProofs only [go_sem, evR, ints, rows, rat, rats, rbox0, nodes, hy, intsO, decide_eq_true (show (j : Int) < ((idxs g.nd pl g.nd.length).length : Int) by omega), hfl]
      refine ⟨by omega, by omega, by omega, by omega, by omega, by omega, hn _ (j + 1) (Weak.trans (Weak.join2 Try.prog tyOne (sl 49) (sl 50) rfl rfl rfl rfl (by decide) (by simp)) (Weak.of _ _ [some 2, some 3, some 5, some 6, some 42] (by simp) (by simp) ?_ ?_)) (by omega) (by omega)⟩
      · simp -implicitDefEqProofs only [ints, rows, Nat.reduceBEq, wkR, Nat.reduceEqDiff, ↓reduceIte, wrR, nodes, next64 h9 (by omega)]
      · refine ⟨⟨_, rfl, .refl _⟩, rfl, ⟨_, rfl, .refl _⟩, rfl, ⟨_, rfl, .refl _⟩, rfl, ⟨_, rfl, ?_⟩, rfl, ⟨_, rfl, .refl _⟩, rfl, trivial⟩
        rw [hfs _ _ _ hy, rbox0, intsO, List.map_set, wrap64 (n := (j : Int) * (g.w.length : Int)) (by omega) (by omega), ← Int.natCast_mul]; exact .refl _
    · simp -implicitDefEqProofs only [go_sem, evR, ints, rows, rat, rats, rbox0, nodes, intsO, decide_eq_false (show ¬ (j : Int) < ((idxs g.nd pl g.nd.length).length : Int) by omega)]
      refine he _ _ ?_
      simp -implicitDefEqProofs only [go_sem, evR, ints, rows, rat, rats]
      rw [show j = (idxs g.nd pl g.nd.length).length by omega, ← hoL]
      clear hn hr he R
      refine CallW.res (impl_nodesOf_t g.nd (1 - pl) (by omega)) [] rfl Try.call123 ?_ (.inl rfl) ?_
      · simp -implicitDefEqProofs only [agR, Nat.reduceLeDiff, Nat.reduceSub, vaR, go_sem, ints, rows, rat, rats, ratsO, rtR, intsO, rowsO]
      simp -implicitDefEqProofs only [clR, Nat.reduceLeDiff, go_sem, evR, rat, intsO]
      refine SemC.loopR (σ := Nat) (fun j => St.of [(2, .own 2), (3, .own 3), (5, .own 5), (6, .own 6), (7, .t (.i g.w.length)), (61, .own 61), (62, .t (.i (idxs g.nd (1 - pl) g.nd.length).length)), (63, .t (.i j))] [(2, .box [nodes g.nd, rows g.w, rows g.v]), (3, .box [.i (1 - pl), rows ot]), (5, .box [.i 0, .v (.slice none 0 0)]), (6, rbox0 g ot pl (ownL g pl) (fillN (idxs g.nd (1 - pl) g.nd.length) g.w.length g.nd.length j)), (61, intsO (idxs g.nd (1 - pl) g.nd.length))]) (fun j => j ≤ (idxs g.nd (1 - pl) g.nd.length).length) (fun j => (idxs g.nd (1 - pl) g.nd.length).length - j) 0 (Weak.of _ _ [some 2, some 3, some 5, some 6, some 61] (by simp) (by simp) ?_ ?_) (by omega) fun j hj R hn hr he => ?_
      · simp -implicitDefEqProofs only [ints, rows, Nat.reduceBEq, wkR, Nat.reduceEqDiff, ↓reduceIte, wrR, nodes, mergeR_at]
      · refine ⟨⟨_, rfl, .refl _⟩, rfl, ⟨_, rfl, .refl _⟩, rfl, ⟨_, rfl, .refl _⟩, rfl, ⟨_, rfl, .refl _⟩, rfl, ⟨_, rfl, .refl _⟩, rfl, trivial⟩
      · have hol := ownL_length g pl
        rcases Nat.lt_or_ge j (idxs g.nd (1 - pl) g.nd.length).length with h9 | h9
        · obtain ⟨y, hy⟩ : ∃ y, (idxs g.nd (1 - pl) g.nd.length)[j]? = some y := ⟨_, List.getElem?_eq_getElem h9⟩
          obtain ⟨n, rfl, hn1⟩ := idxs_lt' hy
          have hjm := hmul j (by omega)
          simp -implicitDefEqProofs only [go_sem, evR, ints, rows, rat, rats, rbox0, nodes, hy, intsO, decide_eq_true (show (j : Int) < ((idxs g.nd (1 - pl) g.nd.length).length : Int) by omega), hfl]
          refine ⟨by omega, by omega, by omega, by omega, by omega, by omega, hn _ (j + 1) (Weak.trans (Weak.join2 Try.prog tyOne (sl 68) (sl 69) rfl rfl rfl rfl (by decide) (by simp)) (Weak.of _ _ [some 2, some 3, some 5, some 6, some 61] (by simp) (by simp) ?_ ?_)) (by omega) (by omega)⟩
          · simp -implicitDefEqProofs only [ints, rows, Nat.reduceBEq, wkR, Nat.reduceEqDiff, ↓reduceIte, wrR, nodes, next64 h9 (by omega)]
          · refine ⟨⟨_, rfl, .refl _⟩, rfl, ⟨_, rfl, .refl _⟩, rfl, ⟨_, rfl, .refl _⟩, rfl, ⟨_, rfl, ?_⟩, rfl, ⟨_, rfl, .refl _⟩, rfl, trivial⟩
            rw [hfs _ _ _ hy, rbox0, intsO, intsO, List.map_set, wrap64 (n := (j : Int) * (g.w.length : Int)) (by omega) (by omega), ← Int.natCast_mul]; exact .refl _
        · simp -implicitDefEqProofs only [go_sem, evR, ints, rows, rat, rats, rbox0, nodes, intsO, decide_eq_false (show ¬ (j : Int) < ((idxs g.nd (1 - pl) g.nd.length).length : Int) by omega)]
          refine he _ _ ?_
          simp -implicitDefEqProofs only [go_sem, evR, ints, rows, rat, rats]
          rw [show j = (idxs g.nd (1 - pl) g.nd.length).length by omega, ← hoL]
          clear hn hr he R
          have hm1 := hmul (idxs g.nd pl g.nd.length).length (by omega)
          have hm2 : (g.w.length : Int) * ((idxs g.nd pl g.nd.length).length : Int) = ((sets g pl).length : Nat) := by rw [hsl2, Int.natCast_mul, Int.mul_comm]
          refine CallC.res (impl_nodesOf_t g.nd pl (by omega)) [] rfl Try.call123 (fun e R' hR => ?_) (.inl rfl) ?_
          · simp -implicitDefEqProofs only [agR, Nat.reduceLeDiff, Nat.reduceSub, vaR, go_sem, ints, rows, rat, rats, ratsO, rtR, intsO, rowsO]
          simp -implicitDefEqProofs only [clR, Nat.reduceLeDiff, go_sem, evR, rat, intsO, made_one, hm2, wrap64 (n := ((sets g pl).length : Int)) (by omega) (by omega)]
          refine ⟨by omega, by omega, ?_⟩
          refine SemC.loopR (σ := Nat) (fun k => St.of [(2, .own 2), (5, .own 5), (6, .own 6), (7, .t (.i g.w.length)), (12, .t (.i (runV g ot pl k))), (89, .t (.i g.w.length)), (90, .t (.i k))] [(2, .box [nodes g.nd, rows g.w, rows g.v]), (5, .box [.i 0, .v (.slice none 0 0)]), (6, rbox1 g ot pl (runB g ot pl k))]) (fun k => k ≤ g.w.length) (fun k => g.w.length - k) 0 (Weak.trans (Weak.open 6 5 500 rfl rfl rfl (by decide) rfl) (Weak.trans (Weak.shareJoin 6 5 500 rfl rfl (by decide) rfl (by simp)) (Weak.trans (Weak.open 6 6 501 rfl rfl rfl (by decide) rfl) (Weak.trans (Weak.shareJoin 6 6 501 rfl rfl (by decide) rfl (by simp)) (Weak.of _ _ [some 2, some 5, some 6] (by simp) (by simp) ?_ ?_))))) (by omega) fun k hk R hn hr he => ?_
          · simp -implicitDefEqProofs only [ints, rows, Nat.reduceBEq, wkR, Nat.reduceEqDiff, ↓reduceIte, wrR, nodes, mergeR_at, runV, List.range_zero, List.map_nil, sumI, shareA]
          · refine ⟨⟨_, rfl, .refl _⟩, rfl, ⟨_, rfl, .refl _⟩, rfl, ⟨_, rfl, ?_⟩, rfl, trivial⟩
            have e1 : (T.arr 1 (List.map T.i (ownL g pl))).toSh = ints (ownL g pl) := intsO_toSh _
            have e2 : (T.arr 1 (List.map T.i (ownL g (1 - pl)))).toSh = ints (ownL g (1 - pl)) := intsO_toSh _
            rw [e1, e2]
            exact .bc (.refl _) (.bc (.refl _) (.bc (.refl _) (.bc (.refl _) (.bc (.any _) (.bc (.refl _) (.bc (.refl _) (.bc (.refl _) (.bc (.refl _) (.bc (Le.nilRows _) (.refl _))))))))))
          · rcases Nat.lt_or_ge k g.w.length with h9 | h9
            · simp -implicitDefEqProofs only [go_sem, evR, ints, rows, rat, rats, rbox1, nodes, made_one, decide_eq_true (show (k : Int) < (g.w.length : Int) by omega)]
              refine ⟨by omega, by omega, ?_⟩
              have hrl := reach0_length g pl k
              refine SemC.loopR (σ := Nat) (fun b => St.of [(2, .own 2), (5, .own 5), (6, .own 6), (7, .t (.i g.w.length)), (12, .t (.i (runV g ot pl k))), (13, .t (.i k)), (14, .own 77), (89, .t (.i g.w.length)), (90, .t (.i k)), (97, .own 77), (98, .t (.i g.w.length)), (99, .t (.i b))] [(2, .box [nodes g.nd, rows g.w, rows g.v]), (5, .box [.i 0, .v (.slice none 0 0)]), (6, rbox g ot pl k (runB g ot pl k)), (77, .arr 1 (filled (reach0 g pl k) T.i (.i 0) b))]) (fun b => b ≤ g.w.length) (fun b => g.w.length - b) 0 (Weak.of _ _ [some 2, some 5, some 6, some 96] (by simp) (by simp) ?_ ?_) (by omega) fun b hb R2 hn2 hr2 he2 => ?_
              · simp -implicitDefEqProofs only [ints, rows, Nat.reduceBEq, wkR, Nat.reduceEqDiff, ↓reduceIte, wrR, nodes, rbox, List.length_replicate]
              · refine ⟨⟨_, rfl, .refl _⟩, rfl, ⟨_, rfl, .refl _⟩, rfl, ⟨_, rfl, .refl _⟩, rfl, ⟨_, rfl, ?_⟩, rfl, trivial⟩
                rw [filled_zero, hrl]; exact .refl _
              · have hfl := filled_length (reach0 g pl k) T.i (.i 0) b (by omega)
                rcases Nat.lt_or_ge b g.w.length with h8 | h8
                · obtain ⟨u, v, r, y, d1, d2, d3, d4, d5, d6, d7⟩ := deal_w hg hpl h9 h8
                  have fin : ∀ S, Weak 139 S (St.of [(2, .own 2), (5, .own 5), (6, .own 6), (7, .t (.i g.w.length)), (12, .t (.i (runV g ot pl k))), (13, .t (.i k)), (14, .own 77), (89, .t (.i g.w.length)), (90, .t (.i k)), (97, .own 77), (98, .t (.i g.w.length)), (99, .t (.i (b + 1 : Nat)))] [(2, .box [nodes g.nd, rows g.w, rows g.v]), (5, .box [.i 0, .v (.slice none 0 0)]), (6, rbox g ot pl k (runB g ot pl k)), (77, .arr 1 (filled (reach0 g pl k) T.i (.i 0) (b + 1)))]) → R2 .normal S := fun S h => hn2 S (b + 1) h (by omega) (by omega)
                  rw [← filled_set d5] at fin
                  clear hn2
                  rcases hpl with rfl | rfl
                  · have d1 : k = u := by have e : (k : Int) = (u : Int) := d1; omega
                    have d2 : b = v := by have e : (b : Int) = (v : Int) := d2; omega
                    subst d1 d2
                    simp -implicitDefEqProofs only [go_sem, evR, ints, rows, rat, rats, rbox, nodes, d3, d4, hfl, decide_eq_true (show (b : Int) < (g.w.length : Int) by omega)]
                    refine ⟨fun _ => ⟨by omega, by omega, by omega, by omega, by omega, by omega, by omega, by omega, by omega, ?_⟩, fun h => absurd h (by decide)⟩
                    · refine fin _ (Weak.of _ _ [some 2, some 5, some 6, some 77] (by simp) (by simp) ?_ ?_)
                      · simp -implicitDefEqProofs only [ints, rows, Nat.reduceBEq, wkR, Nat.reduceEqDiff, ↓reduceIte, wrR, rbox, nodes, next64 h8 (by omega)]
                      · exact ⟨⟨_, rfl, .refl _⟩, rfl, ⟨_, rfl, .refl _⟩, rfl, ⟨_, rfl, .refl _⟩, rfl, ⟨_, rfl, .refl _⟩, rfl, trivial⟩
                  · have d1 : b = u := by have e : (b : Int) = (u : Int) := d1; omega
                    have d2 : k = v := by have e : (k : Int) = (v : Int) := d2; omega
                    subst d1 d2
                    simp -implicitDefEqProofs only [go_sem, evR, ints, rows, rat, rats, rbox, nodes, d3, d4, hfl, decide_eq_true (show (b : Int) < (g.w.length : Int) by omega)]
                    refine ⟨fun h => absurd h (by decide), fun _ => ⟨by omega, by omega, by omega, by omega, by omega, by omega, by omega, by omega, by omega, ?_⟩⟩
                    · refine fin _ (Weak.of _ _ [some 2, some 5, some 6, some 77] (by simp) (by simp) ?_ ?_)
                      · simp -implicitDefEqProofs only [ints, rows, Nat.reduceBEq, wkR, Nat.reduceEqDiff, ↓reduceIte, wrR, rbox, nodes, next64 h8 (by omega)]
                      · exact ⟨⟨_, rfl, .refl _⟩, rfl, ⟨_, rfl, .refl _⟩, rfl, ⟨_, rfl, .refl _⟩, rfl, ⟨_, rfl, .refl _⟩, rfl, trivial⟩
                · simp -implicitDefEqProofs only [go_sem, evR, ints, rows, rat, rats, rbox, nodes, decide_eq_false (show ¬ (b : Int) < (g.w.length : Int) by omega)]
                  refine he2 _ _ ?_
                  simp -implicitDefEqProofs only [go_sem, evR, ints, rows, rat, rats, rbox, nodes]
                  rw [show b = (reach0 g pl k).length by omega, filled_all]
                  refine ⟨_, Weak.trans (Weak.share 77 rfl) (Weak.of [(2, .own 2), (5, .own 5), (6, .own 6), (7, .t (.i g.w.length)), (12, .t (.i (runV g ot pl k))), (13, .t (.i k)), (14, .t (ints (reach0 g pl k))), (89, .t (.i g.w.length)), (90, .t (.i k))] [(2, .box [nodes g.nd, rows g.w, rows g.v]), (5, .box [.i 0, .v (.slice none 0 0)]), (6, rbox g ot pl k (runB g ot pl k))] [some 2, some 5, some 6] (by simp) (by simp) ?_ ?_), ?_⟩
                  · simp -implicitDefEqProofs only [ints, rows, Nat.reduceBEq, wkR, Nat.reduceEqDiff, ↓reduceIte, wrR, shareA, rbox, nodes, T.toSh, T.toShL_eq_map, List.map_map]
                    exact .inr (.inl rfl)
                  · exact ⟨⟨_, rfl, .refl _⟩, rfl, ⟨_, rfl, .refl _⟩, rfl, ⟨_, rfl, .refl _⟩, rfl, trivial⟩
                  · simp -implicitDefEqProofs only [go_sem, evR, ints, rows, rat, rats, rbox, nodes]
                    refine CallW.pure (dep_t (impl_depthFrom_ok t2 (by omega) g.nd.length 0 (by omega) (by omega) (by omega))) [] rfl Try.call125 ?_ (by first | trivial | simp [T.noSh, T.noShL, rat]) rfl ?_
                    · simp -implicitDefEqProofs only [agR, Nat.reduceLeDiff, Nat.reduceSub, vaR, go_sem, ints, rows, rat, rats, ratsO, rtR, intsO, rowsO]
                    simp -implicitDefEqProofs only [go_sem, evR, ints, rows, rat, rats]
                    rw [u2]
                    have hc := cap0 hg pl k
                    have hcall := impl_respond_ok hg hpl hot h9 g.nd.length 0 (reach0 g pl k) (dpt g) (runB g ot pl k) (by omega) (by omega) hrl hc.2 (by rw [dpt_eq]; exact Int.le_refl _) u3 hc.1 (runB_rows t2 ot pl k)
                    rw [← runB_succ] at hcall
                    simp only [rbox, nodes, rows, ints] at hcall
                    have hv1 := runV_abs hg hpl hot k
                    have hv2 := runV_abs hg hpl hot (k + 1)
                    have hcv : capV = 4199040000000 := rfl
                    have hk6 : ((k + 1 : Nat) : Int) * capV ≤ 6 * capV := Int.mul_le_mul_of_nonneg_right (by omega) (by decide)
                    rw [runV_succ] at hv2
                    refine CallW.ref hcall [6] [] rfl Try.call124 (by simp) ?_ (by simp) ?_ (.inl rfl) ?_
                    · simp -implicitDefEqProofs only [srR, Nat.reduceEqDiff, ↓reduceIte, ints, rows, intsO, rowsO]
                    · simp -implicitDefEqProofs only [agR, Nat.reduceLeDiff, Nat.reduceSub, vaR, go_sem, ints, rows, rat, rats, ratsO, rtR, intsO, rowsO]
                    simp -implicitDefEqProofs only [clR, Nat.reduceLeDiff, go_sem, evR, rat]
                    refine hn _ (k + 1) (Weak.of _ _ [some 2, some 5, some 6] (by simp) (by simp) ?_ ?_) (by omega) (by omega)
                    · simp -implicitDefEqProofs only [ints, rows, Nat.reduceBEq, wkR, Nat.reduceEqDiff, ↓reduceIte, wrR, rbox1, nodes, next64 h9 (by omega), wrap64 (n := runV g ot pl k + bestV g ot pl k g.nd.length 0 (reach0 g pl k) (dpt g)) (by omega) (by omega), runV_succ]
                    · refine ⟨⟨_, rfl, .refl _⟩, rfl, ⟨_, rfl, .refl _⟩, rfl, ⟨_, rfl, ?_⟩, rfl, trivial⟩
                      exact .bc (.refl _) (.bc (.refl _) (.bc (.refl _) (.bc (.refl _) (.bc (.any _) (.refl _)))))
            · simp -implicitDefEqProofs only [go_sem, evR, ints, rows, rat, rats, rbox1, nodes, decide_eq_false (show ¬ (k : Int) < (g.w.length : Int) by omega)]
              refine he _ _ ?_
              simp -implicitDefEqProofs only [go_sem, evR, ints, rows, rat, rats]
              refine ⟨_, Weak.open 6 9 500 rfl rfl rfl (by decide) rfl, ?_⟩
              simp -implicitDefEqProofs only [go_sem, evR, ints, rows, rat, rats, List.lookup_cons, beq_self_eq_true, Nat.reduceBEq]
              rw [show k = g.w.length by omega]; rfl
end
end Go.Ab

/- Contracts: pairs of strategies; best numbers, bounds, equilibria, exported. -/
set_option linter.unusedSimpArgs false
set_option linter.unusedVariables false
namespace Go.Ab
open Go.Proofs

theorem strB_parts {g : Gm} {s : Int × List (List Int)} (h : strB g s = true) : isGameB g = true ∧ (s.1 = 0 ∨ s.1 = 1) ∧ isStratB g s.1 s.2 = true := by
  simp only [strB, Bool.and_eq_true, decide_eq_true_eq] at h
  exact ⟨h.1.1, by omega, h.2⟩
theorem strB_run {g : Gm} {s : Int × List (List Int)} (h : strB g s = true) : isGameB g = true ∧ (1 - s.1 = 0 ∨ 1 - s.1 = 1) ∧ partsOK g s.2 (1 - (1 - s.1)) ∧ (1 - (1 - s.1), s.2) = s := by
  obtain ⟨h1, h2, h3⟩ := strB_parts h
  refine ⟨h1, by omega, ?_, ?_⟩
  · rw [show 1 - (1 - s.1) = s.1 by omega]; exact partsOK_of h3
  · rw [show 1 - (1 - s.1) = s.1 by omega]
theorem spec_run {g : Gm} {s : Int × List (List Int)} (h : strB g s = true) : Fun Try.prog 71 [] [.t (.agg [.sh 5 (chunk nodeC g.nd), .sh 1 (g.w.map ints), .sh 1 (g.v.map ints)]), .t (.agg [.i s.1, .sh 1 (s.2.map ints)])] fun o r => o = [] ∧ r = runT g s.2 (1 - s.1) := by
  obtain ⟨h1, h2, h3, h4⟩ := strB_run h
  have := spec_l24Run_ok h1 h2 h3
  rw [h4] at this
  exact this
theorem impl_run {g : Gm} {s : Int × List (List Int)} (h : strB g s = true) : Fun Try.prog 76 [] [.t (.agg [.sh 5 (chunk nodeC g.nd), .sh 1 (g.w.map ints), .sh 1 (g.v.map ints)]), .t (.agg [.i s.1, .sh 1 (s.2.map ints)])] fun o r => o = [] ∧ r = runT g s.2 (1 - s.1) := by
  obtain ⟨h1, h2, h3, h4⟩ := strB_run h
  have := impl_bestAgainst_ok h1 h2 h3
  rw [h4] at this
  exact this
def bestN (g : Gm) (s : Int × List (List Int)) : Int := runV g s.2 (1 - s.1) g.w.length
def bestS (g : Gm) (s : Int × List (List Int)) : Int × List (List Int) := (1 - s.1, runB g s.2 (1 - s.1) g.w.length)
theorem runT_s (g : Gm) (s : Int × List (List Int)) : runT g s.2 (1 - s.1) = .tup [.i (bestN g s), .agg [.i (1 - s.1), rowsO (bestS g s).2]] := rfl
theorem bestN_abs {g : Gm} {s : Int × List (List Int)} (h : strB g s = true) : -25194240000000 ≤ bestN g s ∧ bestN g s ≤ 25194240000000 := by
  obtain ⟨h1, h2, h3, h4⟩ := strB_run h
  obtain ⟨_, hk, _⟩ := isGameB_spec h1
  have hv := runV_abs h1 h2 h3 g.w.length
  have hcv : capV = 4199040000000 := rfl
  have hk6 : ((g.w.length : Nat) : Int) * capV ≤ 6 * capV := Int.mul_le_mul_of_nonneg_right (by omega) (by decide)
  unfold bestN
  omega
def pairG (g : Gm) (s t : Int × List (List Int)) : Bool := strB g s && strB g t && decide (s.1 = 0) && decide (t.1 = 1)
theorem pairG_parts {g : Gm} {s t : Int × List (List Int)} (h : pairG g s t = true) : strB g s = true ∧ strB g t = true ∧ s.1 = 0 ∧ t.1 = 1 := by
  simp only [pairG, Bool.and_eq_true, decide_eq_true_eq] at h
  exact ⟨h.1.1.1, h.1.1.2, h.1.2, h.2⟩
theorem pairG_iff {g : Gm} {s t : Int × List (List Int)} : pairG g s t = true ↔ isGameB g = true ∧ s.1 = 0 ∧ t.1 = 1 ∧ isStratB g s.1 s.2 = true ∧ isStratB g t.1 t.2 = true := by
  simp only [pairG, strB, Bool.and_eq_true, decide_eq_true_eq]
  constructor
  · rintro ⟨⟨⟨⟨⟨h1, h2⟩, h3⟩, ⟨_, h4⟩, h5⟩, h6⟩, h7⟩
    exact ⟨h1, h6, h7, h3, h5⟩
  · rintro ⟨h1, h2, h3, h4, h5⟩
    exact ⟨⟨⟨⟨⟨h1, by omega⟩, h4⟩, ⟨h1, by omega⟩, h5⟩, h2⟩, h3⟩
theorem pairG_no {g : Gm} {s t : Int × List (List Int)} (h : ¬ (isGameB g = true ∧ s.1 = 0 ∧ t.1 = 1 ∧ isStratB g s.1 s.2 = true ∧ isStratB g t.1 t.2 = true)) : pairG g s t = false := by
  cases hp : pairG g s t with
  | false => rfl
  | true => exact (h (pairG_iff.1 hp)).elim
section
attribute [-go_sem] load1C load1V fldC lenC idxC loadNV nilCheckW
theorem isStr_t {f : FuncId} {g : Gm} {s : Int × List (List Int)} {b : Bool} (h : Pure Try.prog f [gameT g, stratT s] (.b b)) : Pure Try.prog f [.agg [.sh 5 (chunk nodeC g.nd), .sh 1 (g.w.map ints), .sh 1 (g.v.map ints)], .agg [.i s.1, .sh 1 (s.2.map ints)]] (.b b) := h
set_option maxRecDepth 20000 in
theorem spec_l23Pair_ok (g : Gm) (s t : Int × List (List Int)) (hg : gameL g) (hs : rowsL s.2) (ht : rowsL t.2) : Pure Try.prog 80 [gameT g, stratT s, stratT t] (.b (pairG g s t)) := by
  refine fun_spec_l23Pair (by simp) ?_
  have h1 := isStr_t (spec_IsStrategy_ok g s hg hs)
  have h2 := isStr_t (spec_IsStrategy_ok g t hg ht)
  have hdef : pairG g s t = (strB g s && strB g t && decide (s.1 = 0) && decide (t.1 = 1)) := rfl
  simp -implicitDefEqProofs only [go_sem, evR, ints, rows, rat, rats, c_spec_l23Pair, gameT, stratT, nodes]
  cases hb1 : strB g s <;> rw [hb1] at h1
  · refine CallW.pure h1 [] rfl Try.call70 ?_ (by first | trivial | simp [T.noSh, T.noShL, rat]) rfl ?_
    · simp -implicitDefEqProofs only [agR, Nat.reduceLeDiff, Nat.reduceSub, vaR, go_sem, ints, rows, rat, rats, ratsO, rtR, intsO, rowsO]
    simp -implicitDefEqProofs only [go_sem, evR, ints, rows, rat, rats]
    rw [hdef, hb1]; rfl
  · refine CallW.pure h1 [] rfl Try.call70 ?_ (by first | trivial | simp [T.noSh, T.noShL, rat]) rfl ?_
    · simp -implicitDefEqProofs only [agR, Nat.reduceLeDiff, Nat.reduceSub, vaR, go_sem, ints, rows, rat, rats, ratsO, rtR, intsO, rowsO]
    simp -implicitDefEqProofs only [go_sem, evR, ints, rows, rat, rats]
    cases hb2 : strB g t <;> rw [hb2] at h2
    · refine CallW.pure h2 [] rfl Try.call70 ?_ (by first | trivial | simp [T.noSh, T.noShL, rat]) rfl ?_
      · simp -implicitDefEqProofs only [agR, Nat.reduceLeDiff, Nat.reduceSub, vaR, go_sem, ints, rows, rat, rats, ratsO, rtR, intsO, rowsO]
      simp -implicitDefEqProofs only [go_sem, evR, ints, rows, rat, rats]
      rw [hdef, hb1, hb2]; rfl
    · refine CallW.pure h2 [] rfl Try.call70 ?_ (by first | trivial | simp [T.noSh, T.noShL, rat]) rfl ?_
      · simp -implicitDefEqProofs only [agR, Nat.reduceLeDiff, Nat.reduceSub, vaR, go_sem, ints, rows, rat, rats, ratsO, rtR, intsO, rowsO]
      simp -implicitDefEqProofs only [go_sem, evR, ints, rows, rat, rats]
      refine ⟨fun h3 => ?_, fun h3 => ?_⟩
      · have h3 : s.1 = 0 := by simpa using h3
        rw [hdef, hb1, hb2, decide_eq_true h3]
        congr 2
      · have h3 : ¬ s.1 = 0 := by simpa using h3
        rw [hdef, hb1, hb2, decide_eq_false h3]; rfl
set_option maxRecDepth 20000 in
theorem impl_arePair_ok (g : Gm) (s t : Int × List (List Int)) (hg : gameL g) (hs : rowsL s.2) (ht : rowsL t.2) : Pure Try.prog 82 [gameT g, stratT s, stratT t] (.b (pairG g s t)) := by
  refine fun_impl_arePair (by simp) ?_
  have h1 := isGame_t (impl_IsGame_ok g hg)
  simp -implicitDefEqProofs only [go_sem, evR, ints, rows, rat, rats, c_impl_arePair, gameT, stratT, nodes]
  cases hb1 : isGameB g <;> rw [hb1] at h1
  · refine CallW.pure h1 [] rfl Try.call85 ?_ (by first | trivial | simp [T.noSh, T.noShL, rat]) rfl ?_
    · simp -implicitDefEqProofs only [agR, Nat.reduceLeDiff, Nat.reduceSub, vaR, go_sem, ints, rows, rat, rats, ratsO, rtR, intsO, rowsO]
    simp -implicitDefEqProofs only [go_sem, evR, ints, rows, rat, rats]
    rw [pairG_no fun h => by rw [hb1] at h; exact absurd h.1 (by simp)]
  · have h2 := isStr_t (impl_isStrategy_ok g s hb1 hs)
    have h3 := isStr_t (impl_isStrategy_ok g t hb1 ht)
    refine CallW.pure h1 [] rfl Try.call85 ?_ (by first | trivial | simp [T.noSh, T.noShL, rat]) rfl ?_
    · simp -implicitDefEqProofs only [agR, Nat.reduceLeDiff, Nat.reduceSub, vaR, go_sem, ints, rows, rat, rats, ratsO, rtR, intsO, rowsO]
    simp -implicitDefEqProofs only [go_sem, evR, ints, rows, rat, rats]
    refine ⟨fun h4 => ⟨fun h5 => ?_, fun h5 => ?_⟩, fun h4 => ?_⟩
    · have h4 : s.1 = 0 := by simpa using h4
      have h5 : t.1 = 1 := by simpa using h5
      cases hb2 : isStratB g s.1 s.2 <;> rw [hb2] at h2
      · refine CallW.pure h2 [] rfl Try.call122 ?_ (by first | trivial | simp [T.noSh, T.noShL, rat]) rfl ?_
        · simp -implicitDefEqProofs only [agR, Nat.reduceLeDiff, Nat.reduceSub, vaR, go_sem, ints, rows, rat, rats, ratsO, rtR, intsO, rowsO]
        simp -implicitDefEqProofs only [go_sem, evR, ints, rows, rat, rats]
        rw [pairG_no fun h => by rw [hb2] at h; exact absurd h.2.2.2.1 (by simp)]
      · refine CallW.pure h2 [] rfl Try.call122 ?_ (by first | trivial | simp [T.noSh, T.noShL, rat]) rfl ?_
        · simp -implicitDefEqProofs only [agR, Nat.reduceLeDiff, Nat.reduceSub, vaR, go_sem, ints, rows, rat, rats, ratsO, rtR, intsO, rowsO]
        simp -implicitDefEqProofs only [go_sem, evR, ints, rows, rat, rats]
        cases hb3 : isStratB g t.1 t.2 <;> rw [hb3] at h3
        · refine CallW.pure h3 [] rfl Try.call122 ?_ (by first | trivial | simp [T.noSh, T.noShL, rat]) rfl ?_
          · simp -implicitDefEqProofs only [agR, Nat.reduceLeDiff, Nat.reduceSub, vaR, go_sem, ints, rows, rat, rats, ratsO, rtR, intsO, rowsO]
          simp -implicitDefEqProofs only [go_sem, evR, ints, rows, rat, rats]
          rw [pairG_no fun h => by rw [hb3] at h; exact absurd h.2.2.2.2 (by simp)]
        · refine CallW.pure h3 [] rfl Try.call122 ?_ (by first | trivial | simp [T.noSh, T.noShL, rat]) rfl ?_
          · simp -implicitDefEqProofs only [agR, Nat.reduceLeDiff, Nat.reduceSub, vaR, go_sem, ints, rows, rat, rats, ratsO, rtR, intsO, rowsO]
          simp -implicitDefEqProofs only [go_sem, evR, ints, rows, rat, rats]
          rw [pairG_iff.2 ⟨hb1, h4, h5, hb2, hb3⟩]
    · have h5 : ¬ t.1 = 1 := by simpa using h5
      rw [pairG_no fun h => h5 h.2.2.1]
    · have h4 : ¬ s.1 = 0 := by simpa using h4
      rw [pairG_no fun h => h4 h.2.1]
theorem pair_t {f : FuncId} {g : Gm} {s t : Int × List (List Int)} {b : Bool} (h : Pure Try.prog f [gameT g, stratT s, stratT t] (.b b)) : Pure Try.prog f [.agg [.sh 5 (chunk nodeC g.nd), .sh 1 (g.w.map ints), .sh 1 (g.v.map ints)], .agg [.i s.1, .sh 1 (s.2.map ints)], .agg [.i t.1, .sh 1 (t.2.map ints)]] (.b b) := h
set_option maxRecDepth 20000 in
theorem spec_l24Both_ok (g : Gm) (s t : Int × List (List Int)) (h : pairG g s t = true) : Pure Try.prog 81 [gameT g, stratT s, stratT t] (.tup [.i (bestN g t), .i (bestN g s)]) := by
  obtain ⟨h1, h2, _⟩ := pairG_parts h
  refine fun_spec_l24Both (by simp) ?_
  simp -implicitDefEqProofs only [go_sem, evR, ints, rows, rat, rats, c_spec_l24Both, gameT, stratT, nodes]
  refine CallW.res (spec_run h2) [] rfl Try.call71 ?_ (.inl rfl) ?_
  · simp -implicitDefEqProofs only [agR, Nat.reduceLeDiff, Nat.reduceSub, vaR, go_sem, ints, rows, rat, rats, ratsO, rtR, intsO, rowsO]
  simp -implicitDefEqProofs only [clR, Nat.reduceLeDiff, go_sem, evR, rat, runT, rowsO]
  refine CallW.res (spec_run h1) [] rfl Try.call71 ?_ (.inl rfl) ?_
  · simp -implicitDefEqProofs only [agR, Nat.reduceLeDiff, Nat.reduceSub, vaR, go_sem, ints, rows, rat, rats, ratsO, rtR, intsO, rowsO]
  simp -implicitDefEqProofs only [clR, Nat.reduceLeDiff, go_sem, evR, rat, runT, rowsO]
  rfl
theorem vb_t {f : FuncId} {g : Gm} {s t : Int × List (List Int)} {r : T} (h : Pure Try.prog f [gameT g, stratT s, stratT t] r) : Pure Try.prog f [.agg [.sh 5 (chunk nodeC g.nd), .sh 1 (g.w.map ints), .sh 1 (g.v.map ints)], .agg [.i s.1, .sh 1 (s.2.map ints)], .agg [.i t.1, .sh 1 (t.2.map ints)]] r := h
def tr3 (r : Int × Int × Int) : T := .tup [.i r.1, .i r.2.1, .i r.2.2]
end
end Go.Ab

/- Games as data: parents; values over the first children; bounds of values. -/
set_option linter.unusedSimpArgs false
set_option linter.unusedVariables false
namespace Go.Ab

def parN (l : List Nd) : Nat → List Int
  | 0 => List.replicate l.length 0
  | i + 1 => (l.getD i nd0).ch.foldl (fun P (c : Int) => P.set c.toNat (i : Int)) (parN l i)
theorem foldl_set_length (i : Int) : ∀ (cs : List Int) (P : List Int), (cs.foldl (fun P (c : Int) => P.set c.toNat i) P).length = P.length
  | [], P => rfl
  | c :: cs, P => by rw [List.foldl_cons, foldl_set_length i cs]; simp
theorem parN_length (l : List Nd) : ∀ i, (parN l i).length = l.length
  | 0 => by simp [parN]
  | i + 1 => by rw [parN, foldl_set_length, parN_length l i]
def valK (g : Gm) (s t : List (List Int)) (f a b p : Nat) (q ch : List Int) (k : Nat) : Int := sumI ((List.zipWith (fun x c => x * val g s t f c.toNat a b p) q ch).take k)
theorem valK_succ {g : Gm} {s t : List (List Int)} {f a b p : Nat} {q ch : List Int} {k : Nat} {x c : Int} (hx : q[k]? = some x) (hc : ch[k]? = some c) : valK g s t f a b p q ch (k + 1) = valK g s t f a b p q ch k + x * val g s t f c.toNat a b p := by
  unfold valK
  have h : (List.zipWith (fun x c => x * val g s t f c.toNat a b p) q ch)[k]? = some (x * val g s t f c.toNat a b p) := by
    rw [List.getElem?_zipWith, hx, hc]
  rw [List.take_add_one, h, Option.toList_some, sumI_snoc]
theorem val_abs {g : Gm} {s t : List (List Int)} (hnd : ndsOK g.nd) (hs : partsOK g s 0) (ht : partsOK g t 1) {a b : Nat} (ha : a < g.w.length) (hb : b < g.w.length) : ∀ (f i p : Nat), i < g.nd.length → dep g.nd f i ≤ p → -(100 * pw p) ≤ val g s t f i a b p ∧ val g s t f i a b p ≤ 100 * pw p
  | 0, i, p, _, _ => by
    have := pw_pos p
    simp only [val]; omega
  | f + 1, i, p, hi, hd => by
    have hpp := pw_pos p
    rw [val]
    (try simp only [])
    by_cases h2 : (g.nd.getD i nd0).p = 2
    · rw [if_pos h2]
      obtain ⟨q1, q2⟩ := payOK_of hnd i a b
      have e1 := Int.mul_le_mul_of_nonneg_right q1 (Int.le_of_lt hpp)
      have e2 := Int.mul_le_mul_of_nonneg_right q2 (Int.le_of_lt hpp)
      rw [Int.neg_mul] at e1
      exact ⟨e1, e2⟩
    · rw [if_neg h2]
      obtain ⟨d1, d2⟩ := dep_child (f := f) h2
      have hx : g.nd[i]? = some (g.nd.getD i nd0) := by rw [List.getD_eq_getElem?_getD, List.getElem?_eq_getElem hi]; rfl
      have hch := ndOK_child (hnd i _ hx)
      obtain ⟨p', rfl⟩ : ∃ p', p = p' + 1 := ⟨p - 1, by omega⟩
      obtain ⟨q, hq, hql, hq0, hqs⟩ : ∃ q, (if (g.nd.getD i nd0).p = 0 then partsOf g s 0 i a else partsOf g t 1 i b) = q ∧ q.length = (g.nd.getD i nd0).ch.length ∧ (∀ x ∈ q, 0 ≤ x ∧ x ≤ 60) ∧ sumI q = 60 := by
        by_cases h0 : (g.nd.getD i nd0).p = 0
        · rw [if_pos h0]
          obtain ⟨m1, m2, m3⟩ := hs i a hi ha h0
          exact ⟨_, rfl, m1, m2, m3⟩
        · rw [if_neg h0]
          obtain ⟨⟨r1, r2⟩, _⟩ := ndOK_fields (hnd i _ hx)
          obtain ⟨m1, m2, m3⟩ := ht i b hi hb (by omega)
          exact ⟨_, rfl, m1, m2, m3⟩
      rw [hq, zipW_sum _ _ _ hql, Nat.add_sub_cancel]
      have hb := sumI_abs (l := List.range (g.nd.getD i nd0).ch.length) (F := fun k => q.getD k 0 * val g s t f ((g.nd.getD i nd0).ch.getD k 0).toNat a b p') (G := fun k => (100 * pw p') * q.getD k 0) fun k hk => by
        have hk := List.mem_range.1 hk
        have hmem : (g.nd.getD i nd0).ch.getD k 0 ∈ (g.nd.getD i nd0).ch := getD_mem 0 hk
        have h1 := hch _ hmem
        have h3 := d2 _ hmem
        have ih := val_abs hnd hs ht ha hb f ((g.nd.getD i nd0).ch.getD k 0).toNat p' (by omega) (by omega)
        have hqk := hq0 _ (getD_mem 0 (show k < q.length by omega))
        obtain ⟨m1, m2⟩ := mul_abs hqk.1 ih.1 ih.2
        exact ⟨m1, m2⟩
      rw [sumI_map_mul, ← hql, map_getD_range, hqs] at hb
      rw [hql] at hb
      have e : 100 * pw (p' + 1) = 100 * pw p' * 60 := by rw [pw_succ]; omega
      rw [e]; exact hb
end Go.Ab

/- Contracts: HalvedWeights. -/
set_option linter.unusedSimpArgs false
set_option linter.unusedVariables false
namespace Go.Ab
open Go.Proofs

def mx0 (l : List Int) : Int := l.foldl max 0
def half (l : List Int) : List Int := l.map fun x => x / 2
def hvd : Nat → List Int → List Int
  | 0, l => l
  | f + 1, l => if mx0 l ≤ 1000000000 then l else hvd f (half l)

def W (f : Nat) : Int := ((2 ^ (29 + f) : Nat) : Int)
def hw (l : List Int) : List Int × Int := if 1 ≤ l.length ∧ l.length ≤ 4 ∧ ∀ x ∈ l, 0 ≤ x then (hvd 34 l, 0) else ([], 2)
end Go.Ab


/- The law FnExactSaddlePoint, as a contract. -/
set_option linter.unusedSimpArgs false
set_option linter.unusedVariables false
namespace Go.Ab
open Go.Proofs

end Go.Ab

/- Contracts: marks of lists of rows. -/
set_option linter.unusedSimpArgs false
set_option linter.unusedVariables false
namespace Go.Ab
open Go.Proofs

def tot : List (List Int) → Nat
  | [] => 0
  | r :: m => r.length + tot m
theorem tot_mem : ∀ {m : List (List Int)} {r : List Int}, r ∈ m → r.length ≤ tot m
  | r' :: m, r, h => by
    rcases List.mem_cons.1 h with rfl | h
    · simp [tot]
    · have := tot_mem h; simp only [tot]; omega

end Go.Ab

/- The law FnExactDominatedRows, as a contract. -/
set_option linter.unusedSimpArgs false
set_option linter.unusedVariables false
namespace Go.Ab
open Go.Proofs

theorem budgetRows_tot : ∀ {m : List (List Int)} {left : Int}, 0 ≤ left → 0 ≤ budgetRows m left → (tot m : Int) ≤ left
  | [], left, _, _ => by simp [tot]; assumption
  | x :: m, left, h0, h => by
    simp only [budgetRows] at h
    split at h
    · omega
    · have := budgetRows_tot (by omega) h
      simp only [tot]; omega
theorem budgetMat_tot {m : List (List Int)} {left : Int} (h0 : 0 ≤ left) (h : 0 ≤ budgetMat m left) : (tot m : Int) ≤ left := by
  simp only [budgetMat] at h
  split at h
  · omega
  · have := budgetRows_tot (by omega) h; omega
end Go.Ab

/- Contracts: games, strategies and claims as the laws copy, measure and compare them. -/
set_option linter.unusedSimpArgs false
set_option linter.unusedVariables false
namespace Go.Ab
open Go.Proofs

def nodeT (x : Nd) : T := .agg (nodeC x)
def gameO (g : Gm) : T := .agg [nodesO g.nd, rowsO g.w, rowsO g.v]
def stratO (s : Int × List (List Int)) : T := .agg [.i s.1, rowsO s.2]
def claimO (c : Cl) : T := .agg [.i c.f.1, rowsO c.f.2, .i c.s.1, rowsO c.s.2, .i c.lo, .i c.hi]
theorem nodesO_toSh (l : List Nd) : (nodesO l).toSh = nodes l := by
  show T.sh 5 (T.toShL (chunk nodeCO l)) = T.sh 5 (chunk nodeC l)
  congr 1
  induction l with
  | nil => rfl
  | cons x l ih =>
    rw [chunk_cons, chunk_cons, T.toShL_eq_map, List.map_append, ← T.toShL_eq_map (chunk nodeCO l), ih]
    congr 1
    show [T.i x.p, .i x.a, .i x.b, .i x.f, (intsO x.ch).toSh] = _
    rw [intsO_toSh]; rfl
theorem toShL_nodes (l : List Nd) : T.toShL (chunk nodeCO l) = chunk nodeC l := by
  have := nodesO_toSh l
  simpa [nodesO, nodes, T.toSh] using this
attribute [go_sem] toShL_nodes
def chs (l : List Nd) : List (List Int) := l.map Nd.ch
theorem nbudgetMat_le {m : List (List Int)} {left : Int} (h : -1 ≤ left) : -1 ≤ budgetMat m left ∧ (budgetMat m left ≤ left ∨ budgetMat m left = -1) := by
  have key : ∀ (m : List (List Int)) (left : Int), -1 ≤ left → -1 ≤ budgetRows m left ∧ (budgetRows m left ≤ left ∨ budgetRows m left = -1) := by
    intro m
    induction m with
    | nil => intro left h; exact ⟨h, .inl (Int.le_refl _)⟩
    | cons r m ih =>
      intro left h
      simp only [budgetRows]
      split
      · omega
      · have := ih (left - r.length) (by omega); omega
  unfold budgetMat
  split
  · omega
  · have := key m (left - m.length) (by omega); omega
section
attribute [-go_sem] load1C load1V fldC lenC idxC loadNV
theorem laws_szTreeNode_ok (x : Nd) (left : Int) (hl : x.ch.length ≤ 9223372036854775807) (h0 : -1 ≤ left) (h1 : left ≤ 1000000000000) : Pure Try.prog 152 [nodeT x, .i left] (.i (budget x.ch.length left)) := by
  refine fun_laws_szTreeNode (by simp) ?_
  simp -implicitDefEqProofs only [go_sem, evR, ints, rows, rat, rats, c_laws_szTreeNode, nodeT, nodeC]
  refine CallW.pure (laws_szInt64S_ok x.ch left (by omega) (by omega) (by omega)) [] rfl Try.call112 ?_ (by first | trivial | simp [T.noSh, T.noShL, rat]) rfl ?_
  · simp -implicitDefEqProofs only [agR, Nat.reduceLeDiff, Nat.reduceSub, vaR, go_sem, ints, rows, rat, rats, ratsO, rtR, intsO, rowsO]
  simp -implicitDefEqProofs only [go_sem, evR, ints, rows, rat, rats]
  refine ⟨fun h => ?_, fun h => trivial⟩
  rw [budget] at h ⊢
  split at h
  · rename_i h2; rw [if_pos h2]
  · omega
theorem szTreeNode_t (x : Nd) (left : Int) (hl : x.ch.length ≤ 9223372036854775807) (h0 : -1 ≤ left) (h1 : left ≤ 1000000000000) : Pure Try.prog 152 [.agg [.i x.p, .i x.a, .i x.b, .i x.f, .sh 1 (x.ch.map T.i)], .i left] (.i (budget x.ch.length left)) := laws_szTreeNode_ok x left hl h0 h1
theorem laws_szTreeNodeS_ok (l : List Nd) (left : Int) (hm : l.length ≤ 9223372036854775807) (hr : ∀ x ∈ l, x.ch.length ≤ 9223372036854775807) (h0 : -1 ≤ left) (h1 : left ≤ 1000000000000) :
    Pure Try.prog 111 [nodes l, .i left] (.i (budgetMat (chs l) left)) := by
  refine fun_laws_szTreeNodeS (by simp) ?_
  simp -implicitDefEqProofs only [go_sem, evR, ints, rows, rat, rats, c_laws_szTreeNodeS, nodes]
  have hcl : (chs l).length = l.length := by simp [chs]
  rw [wrap64 (by omega) (by omega)]
  refine ⟨fun h => ?_, fun h => ?_⟩
  · rw [budgetMat, if_pos (by rw [hcl]; exact h)]
  · refine SemC.loopR (σ := Nat × Int) (fun s => St.of [(0, .t (nodes l)), (1, .t (.i s.2)), (5, .t (.i s.1))] []) (fun s => s.1 ≤ l.length ∧ 0 ≤ s.2 ∧ s.2 ≤ left ∧ budgetRows ((chs l).drop s.1) s.2 = budgetMat (chs l) left) (fun s => l.length - s.1) (0, left - l.length) (Weak.of _ [] [] (by simp) (by simp) ?_ trivial) ⟨by simp, by simp only []; omega, by simp only []; omega, by rw [budgetMat, if_neg (by rw [hcl]; exact h), hcl]; rfl⟩ fun s hI R hn hr' he => ?_
    · simp -implicitDefEqProofs only [ints, rows, wkR, Nat.reduceEqDiff, ↓reduceIte, nodes]
    · obtain ⟨i, x⟩ := s
      (try simp only [] at hI)
      obtain ⟨i1, i2, i3, i4⟩ := hI
      rcases Nat.lt_or_ge i l.length with h9 | h9
      · obtain ⟨y, hy⟩ : ∃ y, l[i]? = some y := ⟨_, List.getElem?_eq_getElem h9⟩
        have hyl := hr y (List.mem_of_getElem? hy)
        have hc : (chs l)[i]? = some y.ch := by rw [chs, List.getElem?_map, hy]; rfl
        rw [drop_of_get hc, budgetRows] at i4
        simp -implicitDefEqProofs only [go_sem, evR, ints, rows, rat, rats, nodes, nd_at hy, decide_eq_true (show (i : Int) < (l.length : Int) by omega)]
        refine ⟨by omega, by rw [nd_len]; omega, by rw [nd_len]; omega, ?_⟩
        refine CallW.pure (szTreeNode_t y x hyl (by omega) (by omega)) [] rfl Try.call152 ?_ (by first | trivial | simp [T.noSh, T.noShL, rat]) rfl ?_
        · simp -implicitDefEqProofs only [agR, Nat.reduceLeDiff, Nat.reduceSub, vaR, go_sem, ints, rows, rat, rats, ratsO, rtR, intsO, rowsO]
        simp -implicitDefEqProofs only [go_sem, evR, ints, rows, rat, rats]
        refine ⟨fun h2 => hr' _ ?_, fun h2 => hn _ (i + 1, budget y.ch.length x) (Weak.of _ [] [] (by simp) (by simp) ?_ trivial) ?_ (by simp only []; omega)⟩
        · simp -implicitDefEqProofs only [go_sem, evR, ints, rows, rat, rats]
          simp only [budget] at h2
          split at h2
          · rename_i h3; rw [if_pos h3] at i4; rw [i4]
          · omega
        · simp -implicitDefEqProofs only [ints, rows, wkR, Nat.reduceEqDiff, ↓reduceIte, nodes, next64 h9 (by omega)]
        · simp only [budget] at h2 ⊢
          split at h2
          · omega
          · rename_i h3
            rw [if_neg h3] at i4 ⊢
            exact ⟨by omega, by omega, by omega, i4⟩
      · simp -implicitDefEqProofs only [go_sem, evR, ints, rows, rat, rats, nodes, decide_eq_false (show ¬ (i : Int) < (l.length : Int) by omega)]
        refine he _ _ ?_
        simp -implicitDefEqProofs only [go_sem, evR, ints, rows, rat, rats]
        rw [List.drop_of_length_le (by omega), budgetRows] at i4
        rw [i4]
theorem laws_szTree_ok (l : List Nd) (left : Int) (hm : l.length ≤ 9223372036854775807) (hr : ∀ x ∈ l, x.ch.length ≤ 9223372036854775807) (h0 : -1 ≤ left) (h1 : left ≤ 1000000000000) :
    Pure Try.prog 68 [treeT l, .i left] (.i (budgetMat (chs l) left)) := by
  refine fun_laws_szTree (by simp) ?_
  simp -implicitDefEqProofs only [go_sem, evR, ints, rows, rat, rats, c_laws_szTree, treeT, nodes]
  have hp := laws_szTreeNodeS_ok l left hm hr h0 h1
  simp only [nodes] at hp
  have hb := nbudgetMat_le (m := chs l) h0
  refine CallW.pure hp [] rfl Try.call111 ?_ (by first | trivial | simp [T.noSh, T.noShL, rat]) rfl ?_
  · simp -implicitDefEqProofs only [agR, Nat.reduceLeDiff, Nat.reduceSub, vaR, go_sem, ints, rows, rat, rats, ratsO, rtR, intsO, rowsO]
  simp -implicitDefEqProofs only [go_sem, evR, ints, rows, rat, rats]
  exact ⟨fun h => by rw [show budgetMat (chs l) left = -1 by omega], fun _ => trivial⟩
def budgetG (g : Gm) (left : Int) : Int :=
  if budgetMat (chs g.nd) left < 0 then -1 else if budgetMat g.w (budgetMat (chs g.nd) left) < 0 then -1 else budgetMat g.v (budgetMat g.w (budgetMat (chs g.nd) left))
theorem laws_szGame_ok (g : Gm) (left : Int) (hg : gameL g) (h0 : -1 ≤ left) (h1 : left ≤ 1000000000000) : Pure Try.prog 18 [gameT g, .i left] (.i (budgetG g left)) := by
  refine fun_laws_szGame (by simp) ?_
  simp -implicitDefEqProofs only [go_sem, evR, ints, rows, rat, rats, c_laws_szGame, gameT, nodes]
  have hp := laws_szTree_ok g.nd left hg.1 hg.2.1 h0 h1
  simp only [nodes, treeT] at hp
  have hb := nbudgetMat_le (m := chs g.nd) h0
  unfold budgetG
  refine CallW.pure hp [] rfl Try.call68 ?_ (by first | trivial | simp [T.noSh, T.noShL, rat]) rfl ?_
  · simp -implicitDefEqProofs only [agR, Nat.reduceLeDiff, Nat.reduceSub, vaR, go_sem, ints, rows, rat, rats, ratsO, rtR, intsO, rowsO]
  simp -implicitDefEqProofs only [go_sem, evR, ints, rows, rat, rats]
  refine ⟨fun h => by rw [if_pos h], fun h => ?_⟩
  rw [if_neg h]
  generalize budgetMat (chs g.nd) left = b at hb h ⊢
  have hb2 := nbudgetMat_le (m := g.w) hb.1
  refine CallW.pure (laws_szInt64SS_ok g.w b (by have := hg.2.2.1.1; omega) (fun r h => by have := hg.2.2.1.2 r h; omega) (by omega) (by omega)) [] rfl Try.call69 ?_ (by first | trivial | simp [T.noSh, T.noShL, rat]) rfl ?_
  · simp -implicitDefEqProofs only [agR, Nat.reduceLeDiff, Nat.reduceSub, vaR, go_sem, ints, rows, rat, rats, ratsO, rtR, intsO, rowsO]
  simp -implicitDefEqProofs only [go_sem, evR, ints, rows, rat, rats]
  refine ⟨fun h2 => by rw [if_pos h2], fun h2 => ?_⟩
  rw [if_neg h2]
  generalize budgetMat g.w b = b2 at hb2 h2 ⊢
  have hb3 := nbudgetMat_le (m := g.v) hb2.1
  refine CallW.pure (laws_szInt64SS_ok g.v b2 (by have := hg.2.2.2.1; omega) (fun r h => by have := hg.2.2.2.2 r h; omega) (by omega) (by omega)) [] rfl Try.call69 ?_ (by first | trivial | simp [T.noSh, T.noShL, rat]) rfl ?_
  · simp -implicitDefEqProofs only [agR, Nat.reduceLeDiff, Nat.reduceSub, vaR, go_sem, ints, rows, rat, rats, ratsO, rtR, intsO, rowsO]
  simp -implicitDefEqProofs only [go_sem, evR, ints, rows, rat, rats]
  exact ⟨fun h => by rw [show budgetMat g.v b2 = -1 by omega], fun _ => trivial⟩
theorem laws_szStrategy_ok (s : Int × List (List Int)) (left : Int) (hs : rowsL s.2) (h0 : -1 ≤ left) (h1 : left ≤ 1000000000000) : Pure Try.prog 19 [stratT s, .i left] (.i (budgetMat s.2 left)) := by
  refine fun_laws_szStrategy (by simp) ?_
  simp -implicitDefEqProofs only [go_sem, evR, ints, rows, rat, rats, c_laws_szStrategy, stratT]
  have hb := nbudgetMat_le (m := s.2) h0
  refine CallW.pure (laws_szInt64SS_ok s.2 left (by have := hs.1; omega) (fun r h => by have := hs.2 r h; omega) (by omega) (by omega)) [] rfl Try.call69 ?_ (by first | trivial | simp [T.noSh, T.noShL, rat]) rfl ?_
  · simp -implicitDefEqProofs only [agR, Nat.reduceLeDiff, Nat.reduceSub, vaR, go_sem, ints, rows, rat, rats, ratsO, rtR, intsO, rowsO]
  simp -implicitDefEqProofs only [go_sem, evR, ints, rows, rat, rats]
  exact ⟨fun h => by rw [show budgetMat s.2 left = -1 by omega], fun _ => trivial⟩
end
end Go.Ab

/- Contracts: copies of games, strategies and claims, and when they are equal. -/
set_option linter.unusedSimpArgs false
set_option linter.unusedVariables false
namespace Go.Ab
open Go.Proofs

def nodeZ : List T := [.i 0, .i 0, .i 0, .i 0, .v (.slice none 0 0)]
def nfilled (l : List Nd) (i : Nat) : List T := chunk nodeCO (l.take i) ++ (List.replicate (l.length - i) nodeZ).flatten
theorem nfilled_length (l : List Nd) (i : Nat) (h : i ≤ l.length) : (nfilled l i).length = l.length * 5 := by
  have e : (List.replicate (l.length - i) nodeZ).flatten.length = (l.length - i) * 5 := by
    have key : ∀ n, (List.replicate n nodeZ).flatten.length = n * 5 := by
      intro n
      induction n with
      | zero => rfl
      | succ n ih => rw [List.replicate_succ, List.flatten_cons, List.length_append, ih, Nat.add_mul]; simp [nodeZ]; omega
    exact key _
  rw [nfilled, List.length_append, e, chunk_length nodeCO_len, List.length_take, Nat.min_eq_left h]; omega
theorem nfilled_zero (l : List Nd) : made nodeZ l.length = nfilled l 0 := by
  rw [nfilled, List.take_zero, chunk_nil, List.nil_append, Nat.sub_zero]
  show (List.range (l.length * 5)).map (fun i => nodeZ.getD (i % 5) .any) = _
  generalize l.length = n
  induction n with
  | zero => rfl
  | succ n ih =>
    rw [Nat.add_mul, Nat.one_mul, List.range_add, List.map_append, ih, List.map_map]
    rw [show n + 1 = n + 1 from rfl, List.replicate_succ', List.flatten_append]
    congr 1
    have : ∀ j, (n * 5 + j) % 5 = j % 5 := fun j => by omega
    show (List.range 5).map (fun j => nodeZ.getD ((n * 5 + j) % 5) .any) = _
    simp only [this]
    rfl
theorem nfilled_all (l : List Nd) : nfilled l l.length = chunk nodeCO l := by simp [nfilled]
theorem nfilled_set {l : List Nd} {i : Nat} {x : Nd} (h : l[i]? = some x) : (nfilled l i).take (i * 5) ++ nodeCO x ++ (nfilled l i).drop (i * 5 + 5) = nfilled l (i + 1) := by
  obtain ⟨hi, rfl⟩ := List.getElem?_eq_some_iff.1 h
  have e1 : (chunk nodeCO (l.take i)).length = i * 5 := by rw [chunk_length nodeCO_len, List.length_take, Nat.min_eq_left (by omega)]
  have e2 : l.length - i = (l.length - (i + 1)) + 1 := by omega
  rw [nfilled, e2, List.replicate_succ, List.flatten_cons, List.take_left' e1, show i * 5 + 5 = (chunk nodeCO (l.take i)).length + 5 by omega, List.drop_length_add_append]
  rw [show List.drop 5 (nodeZ ++ (List.replicate (l.length - (i + 1)) nodeZ).flatten) = (List.replicate (l.length - (i + 1)) nodeZ).flatten from rfl]
  rw [nfilled, take_snoc h, chunk_append]
  simp [chunk]
section
attribute [-go_sem] load1C load1V fldC lenC idxC loadNV
theorem laws_toTreeNode_ok (x : Nd) (hl : x.ch.length ≤ 1000000000000) : Fun Try.prog 156 [] [.t (nodeT x)] fun o r => o = [] ∧ r = .agg (nodeCO x) := by
  refine fun_laws_toTreeNode (by simp) ?_
  simp -implicitDefEqProofs only [go_sem, evR, ints, rows, rat, rats, c_laws_toTreeNode, nodeT, nodeC]
  refine CallW.res (laws_toInt64S_ok x.ch (by omega)) [] rfl Try.call121 ?_ (.inl rfl) ?_
  · simp -implicitDefEqProofs only [agR, Nat.reduceLeDiff, Nat.reduceSub, vaR, go_sem, ints, rows, rat, rats, ratsO, rtR, intsO, rowsO]
  simp -implicitDefEqProofs only [clR, Nat.reduceLeDiff, go_sem, evR, rat, intsO, opR, Nat.reduceBEq]
  rfl
theorem toTreeNode_t (x : Nd) (hl : x.ch.length ≤ 1000000000000) : Fun Try.prog 156 [] [.t (.agg [.i x.p, .i x.a, .i x.b, .i x.f, .sh 1 (x.ch.map T.i)])] fun o r => o = [] ∧ r = .agg [.i x.p, .i x.a, .i x.b, .i x.f, intsO x.ch] := laws_toTreeNode_ok x hl
set_option maxRecDepth 20000 in
theorem laws_toTreeNodeS_ok (l : List Nd) (hm : l.length ≤ 1000000000000) (hr : ∀ x ∈ l, x.ch.length ≤ 1000000000000) : Fun Try.prog 120 [] [.t (nodes l)] fun o r => o = [] ∧ r = nodesO l := by
  refine fun_laws_toTreeNodeS (by simp) ?_
  simp -implicitDefEqProofs only [go_sem, evR, ints, rows, rat, rats, c_laws_toTreeNodeS, nodes]
  refine ⟨by omega, by omega, ?_⟩
  refine SemC.loopR (σ := Nat) (fun i => St.of [(0, .t (nodes l)), (3, .own 7), (4, .t (.i i))] [(7, .arr 5 (nfilled l i))]) (fun i => i ≤ l.length) (fun i => l.length - i) 0 (Weak.of _ _ [some 7] (by simp) (by simp) ?_ ?_) (by simp) fun i hi R hn hr' he => ?_
  · simp -implicitDefEqProofs only [ints, rows, Nat.reduceBEq, wkR, Nat.reduceEqDiff, ↓reduceIte, wrR, nodes]
  · exact ⟨⟨_, rfl, by rw [← nfilled_zero]; exact .refl _⟩, rfl, trivial⟩
  · have hlen := nfilled_length l i hi
    rcases Nat.lt_or_ge i l.length with h9 | h9
    · obtain ⟨y, hy⟩ : ∃ y, l[i]? = some y := ⟨_, List.getElem?_eq_getElem h9⟩
      simp -implicitDefEqProofs only [go_sem, evR, ints, rows, rat, rats, nodes, nd_at hy, decide_eq_true (show (i : Int) < (l.length : Int) by omega)]
      refine ⟨by omega, by rw [nd_len]; omega, by rw [nd_len]; omega, ?_⟩
      refine CallW.res (toTreeNode_t y (hr y (List.mem_of_getElem? hy))) [] rfl Try.call156 ?_ (.inl rfl) ?_
      · simp -implicitDefEqProofs only [agR, Nat.reduceLeDiff, Nat.reduceSub, vaR, go_sem, ints, rows, rat, rats, ratsO, rtR, intsO, rowsO]
      simp -implicitDefEqProofs only [clR, Nat.reduceLeDiff, go_sem, evR, rat, intsO, hlen]
      refine ⟨by omega, by omega, by omega, hn _ (i + 1) (Weak.of _ _ [some 7] (by simp) (by simp) ?_ ?_) (by omega) (by omega)⟩
      · simp -implicitDefEqProofs only [ints, rows, Nat.reduceBEq, wkR, Nat.reduceEqDiff, ↓reduceIte, wrR, nodes, next64 h9 (by omega)]
      · refine ⟨⟨_, rfl, ?_⟩, rfl, trivial⟩
        have := nfilled_set hy
        simp only [nodeCO, intsO, List.append_assoc, List.cons_append, List.nil_append] at this
        (try simp only [List.append_assoc, List.cons_append, List.nil_append])
        rw [this]; exact .refl _
    · simp -implicitDefEqProofs only [go_sem, evR, ints, rows, rat, rats, nodes, decide_eq_false (show ¬ (i : Int) < (l.length : Int) by omega)]
      refine he _ _ ?_
      simp -implicitDefEqProofs only [go_sem, evR, ints, rows, rat, rats]
      rw [show i = l.length by omega, nfilled_all]; rfl
theorem laws_toTree_ok (l : List Nd) (hm : l.length ≤ 1000000000000) (hr : ∀ x ∈ l, x.ch.length ≤ 1000000000000) : Fun Try.prog 73 [] [.t (treeT l)] fun o r => o = [] ∧ r = .agg [nodesO l] := by
  refine fun_laws_toTree (by simp) ?_
  simp -implicitDefEqProofs only [go_sem, evR, ints, rows, rat, rats, c_laws_toTree, treeT, nodes]
  have hp := laws_toTreeNodeS_ok l hm hr
  simp only [nodes] at hp
  refine CallW.res hp [] rfl Try.call120 ?_ (.inl rfl) ?_
  · simp -implicitDefEqProofs only [agR, Nat.reduceLeDiff, Nat.reduceSub, vaR, go_sem, ints, rows, rat, rats, ratsO, rtR, intsO, rowsO]
  simp -implicitDefEqProofs only [clR, Nat.reduceLeDiff, go_sem, evR, rat, nodesO, opR, Nat.reduceBEq]
def rows12 (m : List (List Int)) : Prop := m.length ≤ 1000000000000 ∧ ∀ r ∈ m, r.length ≤ 1000000000000
def game12 (g : Gm) : Prop := g.nd.length ≤ 1000000000000 ∧ (∀ x ∈ g.nd, x.ch.length ≤ 1000000000000) ∧ rows12 g.w ∧ rows12 g.v
theorem rows12_to {m : List (List Int)} (h : rows12 m) : ((m.length : Int) ≤ 1000000000000) ∧ ∀ r ∈ m, (r.length : Int) ≤ 1000000000000 := ⟨by have := h.1; omega, fun r hr => by have := h.2 r hr; omega⟩
set_option maxRecDepth 20000 in
theorem laws_toGame_ok (g : Gm) (hg : game12 g) : Fun Try.prog 21 [] [.t (gameT g)] fun o r => o = [] ∧ r = gameO g := by
  refine fun_laws_toGame (by simp) ?_
  simp -implicitDefEqProofs only [go_sem, evR, ints, rows, rat, rats, c_laws_toGame, gameT, nodes]
  have hp := laws_toTree_ok g.nd hg.1 hg.2.1
  simp only [treeT, nodes] at hp
  refine CallW.res hp [] rfl Try.call73 ?_ (.inl rfl) ?_
  · simp -implicitDefEqProofs only [agR, Nat.reduceLeDiff, Nat.reduceSub, vaR, go_sem, ints, rows, rat, rats, ratsO, rtR, intsO, rowsO]
  simp -implicitDefEqProofs only [clR, Nat.reduceLeDiff, go_sem, evR, rat, nodesO, opR, Nat.reduceBEq]
  refine CallW.res (laws_toInt64SS_ok g.w (rows12_to hg.2.2.1).1 (rows12_to hg.2.2.1).2) [] rfl Try.call74 ?_ (.inl rfl) ?_
  · simp -implicitDefEqProofs only [agR, Nat.reduceLeDiff, Nat.reduceSub, vaR, go_sem, ints, rows, rat, rats, ratsO, rtR, intsO, rowsO]
  simp -implicitDefEqProofs only [clR, Nat.reduceLeDiff, go_sem, evR, rat, rowsO, opR, Nat.reduceBEq]
  refine CallW.res (laws_toInt64SS_ok g.v (rows12_to hg.2.2.2).1 (rows12_to hg.2.2.2).2) [] rfl Try.call74 ?_ (.inl rfl) ?_
  · simp -implicitDefEqProofs only [agR, Nat.reduceLeDiff, Nat.reduceSub, vaR, go_sem, ints, rows, rat, rats, ratsO, rtR, intsO, rowsO]
  simp -implicitDefEqProofs only [clR, Nat.reduceLeDiff, go_sem, evR, rat, rowsO, opR, Nat.reduceBEq]
  rfl
theorem laws_toStrategy_ok (s : Int × List (List Int)) (hs : rows12 s.2) : Fun Try.prog 22 [] [.t (stratT s)] fun o r => o = [] ∧ r = stratO s := by
  refine fun_laws_toStrategy (by simp) ?_
  simp -implicitDefEqProofs only [go_sem, evR, ints, rows, rat, rats, c_laws_toStrategy, stratT]
  refine CallW.res (laws_toInt64SS_ok s.2 (rows12_to hs).1 (rows12_to hs).2) [] rfl Try.call74 ?_ (.inl rfl) ?_
  · simp -implicitDefEqProofs only [agR, Nat.reduceLeDiff, Nat.reduceSub, vaR, go_sem, ints, rows, rat, rats, ratsO, rtR, intsO, rowsO]
  simp -implicitDefEqProofs only [clR, Nat.reduceLeDiff, go_sem, evR, rat, rowsO, opR, Nat.reduceBEq]
  rfl
theorem laws_eqTreeNode_ok (x y : Nd) (hx : x.ch.length ≤ 1000000000000) (hy : y.ch.length ≤ 1000000000000) : Pure Try.prog 159 [nodeT x, nodeT y] (.b (decide (x = y))) := by
  refine fun_laws_eqTreeNode (by simp) ?_
  obtain ⟨p, a, b, f, ch⟩ := x
  obtain ⟨p', a', b', f', ch'⟩ := y
  simp -implicitDefEqProofs only [go_sem, evR, ints, rows, rat, rats, c_laws_eqTreeNode, nodeT, nodeC]
  have no : ∀ {P : Prop}, ¬ P → (Nd.mk p a b f ch = Nd.mk p' a' b' f' ch' → P) → decide (Nd.mk p a b f ch = Nd.mk p' a' b' f' ch') = false := fun h1 h2 => decide_eq_false fun h => h1 (h2 h)
  refine ⟨fun h1 => ?_, fun h1 => ?_⟩
  · rw [no (P := p = p') (by simpa using h1) (fun h => by injection h)]
  refine ⟨fun h2 => ?_, fun h2 => ?_⟩
  · rw [no (P := a = a') (by simpa using h2) (fun h => by injection h)]
  refine ⟨fun h3 => ?_, fun h3 => ?_⟩
  · rw [no (P := b = b') (by simpa using h3) (fun h => by injection h)]
  refine ⟨fun h4 => ?_, fun h4 => ?_⟩
  · rw [no (P := f = f') (by simpa using h4) (fun h => by injection h)]
  refine CallW.pure (laws_eqInt64S_ok ch ch' hx hy) [] rfl Try.call129 ?_ (by first | trivial | simp [T.noSh, T.noShL, rat]) rfl ?_
  · simp -implicitDefEqProofs only [agR, Nat.reduceLeDiff, Nat.reduceSub, vaR, go_sem, ints, rows, rat, rats, ratsO, rtR, intsO, rowsO]
  simp -implicitDefEqProofs only [go_sem, evR, ints, rows, rat, rats]
  refine ⟨fun h5 => ?_, fun h5 => ?_⟩
  · rw [no (P := ch = ch') (by simpa using h5) (fun h => by injection h)]
  · rw [decide_eq_true (by simp at h1 h2 h3 h4 h5; simp_all)]
theorem eqTreeNode_t (x y : Nd) (hx : x.ch.length ≤ 1000000000000) (hy : y.ch.length ≤ 1000000000000) : Pure Try.prog 159 [.agg [.i x.p, .i x.a, .i x.b, .i x.f, .sh 1 (x.ch.map T.i)], .agg [.i y.p, .i y.a, .i y.b, .i y.f, .sh 1 (y.ch.map T.i)]] (.b (decide (x = y))) := laws_eqTreeNode_ok x y hx hy
theorem laws_eqTreeNodeS_ok (a b : List Nd) (ha : a.length ≤ 1000000000000) (hb : b.length ≤ 1000000000000) (hra : ∀ r ∈ a, r.ch.length ≤ 1000000000000) (hrb : ∀ r ∈ b, r.ch.length ≤ 1000000000000) :
    Pure Try.prog 128 [nodes a, nodes b] (.b (decide (a = b))) := by
  refine fun_laws_eqTreeNodeS (by simp) ?_
  simp -implicitDefEqProofs only [go_sem, evR, ints, rows, rat, rats, c_laws_eqTreeNodeS, nodes]
  refine ⟨fun h => ?_, fun h => ?_⟩
  · have : a ≠ b := by rintro rfl; simp at h
    simp [this]
  · have hab : a.length = b.length := by simp at h; omega
    refine SemC.loopR (σ := Nat) (fun i => St.of [(0, .t (nodes a)), (1, .t (nodes b)), (5, .t (.i i))] []) (fun i => i ≤ a.length ∧ ∀ j, j < i → a[j]? = b[j]?) (fun i => a.length - i) 0 (Weak.of _ [] [] (by simp) (by simp) ?_ trivial) ⟨by simp, fun j hj => by omega⟩ fun i hI R hn hr he => ?_
    · simp -implicitDefEqProofs only [ints, rows, wkR, Nat.reduceEqDiff, ↓reduceIte, nodes]
    · rcases Nat.lt_or_ge i a.length with h9 | h9
      · obtain ⟨x, hx⟩ : ∃ x, a[i]? = some x := ⟨_, List.getElem?_eq_getElem h9⟩
        obtain ⟨y, hy⟩ : ∃ y, b[i]? = some y := ⟨_, List.getElem?_eq_getElem (by omega)⟩
        simp -implicitDefEqProofs only [go_sem, evR, ints, rows, rat, rats, nodes, nd_at hx, nd_at hy, decide_eq_true (show (i : Int) < (a.length : Int) by omega)]
        refine ⟨by omega, by rw [nd_len]; omega, by rw [nd_len]; omega, by omega, by rw [nd_len]; omega, by rw [nd_len]; omega, ?_⟩
        refine CallV.pure (eqTreeNode_t x y (hra x (List.mem_of_getElem? hx)) (hrb y (List.mem_of_getElem? hy))) [] rfl Try.call159 (fun e R' hR => ?_) (by first | trivial | simp [T.noSh, T.noShL, rat]) (fun _ => rfl) ?_
        · simp -implicitDefEqProofs only [agR, Nat.reduceLeDiff, Nat.reduceSub, vaR, go_sem, ints, rows, rat, rats, ratsO, rtR, intsO, rowsO]
        simp -implicitDefEqProofs only [go_sem, evR, ints, rows, rat, rats]
        refine ⟨fun h1 => hr _ ?_, fun h1 => hn _ (i + 1) (Weak.of _ [] [] (by simp) (by simp) ?_ trivial) ⟨by omega, fun j hj => ?_⟩ (by omega)⟩
        · simp -implicitDefEqProofs only [go_sem, evR, ints, rows, rat, rats]
          have : a ≠ b := by rintro rfl; rw [hx] at hy; cases hy; simp at h1
          simp [this]
        · simp -implicitDefEqProofs only [ints, rows, wkR, Nat.reduceEqDiff, ↓reduceIte, nodes, next64 h9 ha]
        · rcases Nat.lt_or_ge j i with h | h
          · exact hI.2 j h
          · have : j = i := by omega
            subst this
            rw [hx, hy]; simpa using h1
      · simp -implicitDefEqProofs only [go_sem, evR, ints, rows, rat, rats, nodes, decide_eq_false (show ¬ (i : Int) < (a.length : Int) by omega)]
        refine he _ _ ?_
        simp -implicitDefEqProofs only [go_sem, evR, ints, rows, rat, rats]
        have : a = b := by
          refine List.ext_getElem? fun j => ?_
          rcases Nat.lt_or_ge j i with h | h
          · exact hI.2 j h
          · rw [List.getElem?_eq_none (by omega), List.getElem?_eq_none (by omega)]
        simp [this]
theorem laws_eqTree_ok (a b : List Nd) (ha : a.length ≤ 1000000000000) (hb : b.length ≤ 1000000000000) (hra : ∀ r ∈ a, r.ch.length ≤ 1000000000000) (hrb : ∀ r ∈ b, r.ch.length ≤ 1000000000000) :
    Pure Try.prog 78 [treeT a, treeT b] (.b (decide (a = b))) := by
  refine fun_laws_eqTree (by simp) ?_
  simp -implicitDefEqProofs only [go_sem, evR, ints, rows, rat, rats, c_laws_eqTree, treeT, nodes]
  have hp := laws_eqTreeNodeS_ok a b ha hb hra hrb
  simp only [nodes] at hp
  refine CallW.pure hp [] rfl Try.call128 ?_ (by first | trivial | simp [T.noSh, T.noShL, rat]) rfl ?_
  · simp -implicitDefEqProofs only [agR, Nat.reduceLeDiff, Nat.reduceSub, vaR, go_sem, ints, rows, rat, rats, ratsO, rtR, intsO, rowsO]
  simp -implicitDefEqProofs only [go_sem, evR, ints, rows, rat, rats]
  exact ⟨fun h => by rw [show decide (a = b) = false by simpa using h], fun h => by rw [show decide (a = b) = true by simpa using h]⟩
theorem laws_eqGame_ok (g h : Gm) (hg : game12 g) (hh : game12 h) : Pure Try.prog 24 [gameT g, gameT h] (.b (decide (g = h))) := by
  refine fun_laws_eqGame (by simp) ?_
  obtain ⟨nd, w, v⟩ := g
  obtain ⟨nd', w', v'⟩ := h
  simp -implicitDefEqProofs only [go_sem, evR, ints, rows, rat, rats, c_laws_eqGame, gameT, nodes]
  have no : ∀ {P : Prop}, ¬ P → (Gm.mk nd w v = Gm.mk nd' w' v' → P) → decide (Gm.mk nd w v = Gm.mk nd' w' v') = false := fun h1 h2 => decide_eq_false fun h => h1 (h2 h)
  have hp := laws_eqTree_ok nd nd' hg.1 hh.1 hg.2.1 hh.2.1
  simp only [treeT, nodes] at hp
  refine CallW.pure hp [] rfl Try.call78 ?_ (by first | trivial | simp [T.noSh, T.noShL, rat]) rfl ?_
  · simp -implicitDefEqProofs only [agR, Nat.reduceLeDiff, Nat.reduceSub, vaR, go_sem, ints, rows, rat, rats, ratsO, rtR, intsO, rowsO]
  simp -implicitDefEqProofs only [go_sem, evR, ints, rows, rat, rats]
  refine ⟨fun h1 => ?_, fun h1 => ?_⟩
  · rw [no (P := nd = nd') (by simpa using h1) (fun h => by injection h)]
  refine CallW.pure (laws_eqInt64SS_ok w w' hg.2.2.1.1 hh.2.2.1.1 hg.2.2.1.2 hh.2.2.1.2) [] rfl Try.call79 ?_ (by first | trivial | simp [T.noSh, T.noShL, rat]) rfl ?_
  · simp -implicitDefEqProofs only [agR, Nat.reduceLeDiff, Nat.reduceSub, vaR, go_sem, ints, rows, rat, rats, ratsO, rtR, intsO, rowsO]
  simp -implicitDefEqProofs only [go_sem, evR, ints, rows, rat, rats]
  refine ⟨fun h2 => ?_, fun h2 => ?_⟩
  · rw [no (P := w = w') (by simpa using h2) (fun h => by injection h)]
  refine CallW.pure (laws_eqInt64SS_ok v v' hg.2.2.2.1 hh.2.2.2.1 hg.2.2.2.2 hh.2.2.2.2) [] rfl Try.call79 ?_ (by first | trivial | simp [T.noSh, T.noShL, rat]) rfl ?_
  · simp -implicitDefEqProofs only [agR, Nat.reduceLeDiff, Nat.reduceSub, vaR, go_sem, ints, rows, rat, rats, ratsO, rtR, intsO, rowsO]
  simp -implicitDefEqProofs only [go_sem, evR, ints, rows, rat, rats]
  refine ⟨fun h3 => ?_, fun h3 => ?_⟩
  · rw [no (P := v = v') (by simpa using h3) (fun h => by injection h)]
  · rw [decide_eq_true (by simp at h1 h2 h3; simp_all)]
theorem laws_eqStrategy_ok (s t : Int × List (List Int)) (hs : rows12 s.2) (ht : rows12 t.2) : Pure Try.prog 25 [stratT s, stratT t] (.b (decide (s = t))) := by
  refine fun_laws_eqStrategy (by simp) ?_
  obtain ⟨p, m⟩ := s
  obtain ⟨p', m'⟩ := t
  simp -implicitDefEqProofs only [go_sem, evR, ints, rows, rat, rats, c_laws_eqStrategy, stratT]
  refine ⟨fun h1 => ?_, fun h1 => ?_⟩
  · have h1 : ¬ p = p' := by simpa using h1
    rw [decide_eq_false (fun h => h1 (by injection h))]
  refine CallW.pure (laws_eqInt64SS_ok m m' hs.1 ht.1 hs.2 ht.2) [] rfl Try.call79 ?_ (by first | trivial | simp [T.noSh, T.noShL, rat]) rfl ?_
  · simp -implicitDefEqProofs only [agR, Nat.reduceLeDiff, Nat.reduceSub, vaR, go_sem, ints, rows, rat, rats, ratsO, rtR, intsO, rowsO]
  simp -implicitDefEqProofs only [go_sem, evR, ints, rows, rat, rats]
  refine ⟨fun h2 => ?_, fun h2 => ?_⟩
  · have h2 : ¬ m = m' := by simpa using h2
    rw [decide_eq_false (fun h => h2 (by injection h))]
  · rw [decide_eq_true (by simp at h1 h2; simp_all)]
end
end Go.Ab

/- Sizes of games, strategies and claims behind the laws' budgets. -/
set_option linter.unusedSimpArgs false
set_option linter.unusedVariables false
namespace Go.Ab
open Go.Proofs

def rowsS (m : List (List Int)) : Prop := m.length ≤ 1048576 ∧ tot m ≤ 1048576
def gameS (g : Gm) : Prop := rowsS (chs g.nd) ∧ rowsS g.w ∧ rowsS g.v
theorem rowsS_12 {m : List (List Int)} (h : rowsS m) : rows12 m := ⟨by have := h.1; omega, fun r hr => by have := tot_mem hr; have := h.2; omega⟩
theorem rowsS_L {m : List (List Int)} (h : rowsS m) : rowsL m := ⟨by have := h.1; omega, fun r hr => by have := tot_mem hr; have := h.2; omega⟩
theorem chs_mem {l : List Nd} {x : Nd} (h : x ∈ l) : x.ch ∈ chs l := List.mem_map.2 ⟨x, h, rfl⟩
theorem chs_length (l : List Nd) : (chs l).length = l.length := by simp [chs]
theorem gameS_12 {g : Gm} (h : gameS g) : game12 g := by
  have h1 := rowsS_12 h.1
  exact ⟨by have := h1.1; rw [chs_length] at this; exact this, fun x hx => h1.2 _ (chs_mem hx), rowsS_12 h.2.1, rowsS_12 h.2.2⟩
theorem gameS_L {g : Gm} (h : gameS g) : gameL g := by
  have h1 := rowsS_L h.1
  exact ⟨by have := h1.1; rw [chs_length] at this; exact this, fun x hx => h1.2 _ (chs_mem hx), rowsS_L h.2.1, rowsS_L h.2.2⟩
theorem budgetM_S {m : List (List Int)} {left : Int} (h0 : 0 ≤ left) (h1 : left ≤ 1048576) (h : ¬ budgetMat m left < 0) : rowsS m ∧ 0 ≤ budgetMat m left ∧ budgetMat m left ≤ 1048576 := by
  have h2 := nbudgetMat_le (m := m) (left := left) (by omega)
  have h3 := (budgetMat_ok (m := m) (left := left) h0 (by omega)).1
  have h4 := budgetMat_tot (m := m) (left := left) h0 (by omega)
  exact ⟨⟨by omega, by omega⟩, by omega, by omega⟩
theorem budgetG_S {g : Gm} {left : Int} (h0 : 0 ≤ left) (h1 : left ≤ 1048576) (h : ¬ budgetG g left < 0) : gameS g ∧ 0 ≤ budgetG g left ∧ budgetG g left ≤ 1048576 := by
  unfold budgetG at h ⊢
  by_cases a : budgetMat (chs g.nd) left < 0
  · rw [if_pos a] at h; exact absurd h (by decide)
  rw [if_neg a] at h ⊢
  obtain ⟨a1, a2, a3⟩ := budgetM_S h0 h1 a
  by_cases b : budgetMat g.w (budgetMat (chs g.nd) left) < 0
  · rw [if_pos b] at h; exact absurd h (by decide)
  rw [if_neg b] at h ⊢
  obtain ⟨b1, b2, b3⟩ := budgetM_S a2 a3 b
  obtain ⟨c1, c2, c3⟩ := budgetM_S b2 b3 h
  exact ⟨⟨a1, b1, c1⟩, c2, c3⟩
end Go.Ab

/- Functions in compact form, with hints. -/
set_option linter.unusedVariables false
namespace Go.Ab
open Go.Proofs

def c_impl_newEvaluator_h : CC :=
 (.seq (.reg [.o (.box 3 (sl 0)),
 .o (.box 4 (sl 1)),
 .o (.box 5 (sl 2)),
 .o (.move 6 (cv (.pointer none)))])
 ((.seq (.draw [25] [(kR, .o (.loadN 15 3 (sl 3))),
 (kR, .o (.fld 16 1 (sl 4))),
 (kR, .o (.load1 17 (sl 16))),
 (kR, .o (.fld 18 1 (sl 5))),
 (kR, .o (.load1 19 (sl 18))),
 (kR, .o (.build 20 [.v (.slice none 0 0), .v (.slice none 0 0)] [(0, 1), (1, 1)] [(0, (sl 17)), (1, (sl 19))])),
 (kR, .o (.fld 21 0 (sl 3))),
 (kR, .o (.fld 22 0 (sl 21))),
 (kR, .o (.load1 23 (sl 22))),
 (kR, .o (.lenS 24 (sl 23))),
 (kN, .o (.make 25 [.v (.int .i64 0)] 8 (sl 24) (sl 24))),
 (kR, .o (.build 26 [.v (.slice none 0 0), .v (.slice none 0 0), .v (.slice none 0 0), .v (.slice none 0 0), .v (.slice none 0 0), .v (.slice none 0 0), .v (.slice none 0 0), .v (.slice none 0 0)] [(0, 3), (3, 2), (5, 2), (7, 1)] [(0, (sl 15)), (2, (sl 20)), (3, (sl 25))])),
 (kH, .o (.box 27 (sl 26))),
 (kR, .o (.move 7 (sl 27)))])
 ((.seq (.seq (.reg [.o (.move 28 (ci 0))])
 ((.block 0 (.loop (.seq (.reg [.o (.bin 29 .lss (sl 28) (ci 2))])
 ((.seq (.cond (sl 29) .skip
 (.exit 0))
 ((.seq (.block 1 (.seq (.reg [.o (.move 30 (sl 28)),
 .o (.move 8 (sl 30))])
 ((.seq (.draw [37] [(kR, .o (.move 31 (sl 7))),
 (kR, .o (.move 32 (sl 8))),
 (kR, .o (.fld 33 0 (sl 3))),
 (kR, .o (.fld 34 0 (sl 33))),
 (kR, .o (.load1 35 (sl 34))),
 (kR, .o (.lenS 36 (sl 35))),
 (kN, .o (.make 37 [.v (.int .i64 0)] 8 (sl 36) (sl 36))),
 (.r false [37], .o (.nilc 38 (sl 31))),
 (.r false [37], .o (.fld 39 3 (sl 38))),
 (kR, .o (.idxA 40 2 1 (sl 39) (sl 32))),
 (kH, .o (.store 1 (sl 40) (sl 37)))])
 ((.seq (.reg [.o (.fld 41 0 (sl 3)),
 .o (.loadN 42 1 (sl 41)),
 .o (.move 43 (sl 8)),
 .o (.call (some 44) (cf 123) [(sl 42), (sl 43)]),
 .o (.lenS 45 (sl 44)),
 .o (.move 46 (ci 0))])
 ((.block 2 (.loop (.seq (.reg [.o (.bin 47 .lss (sl 46) (sl 45))])
 ((.seq (.cond (sl 47) .skip
 (.exit 2))
 ((.seq (.block 3 (.seq (.reg [.o (.move 48 (sl 46)),
 .o (.idx 49 1 (sl 44) (sl 46)),
 .o (.load1 50 (sl 49)),
 .o (.move 9 (sl 48)),
 .o (.move 10 (sl 50))])
 ((.weak (.draw [] [(kR, .o (.move 51 (sl 7))),
 (kR, .o (.move 52 (sl 8))),
 (kR, .o (.nilc 53 (sl 51))),
 (kR, .o (.fld 54 3 (sl 53))),
 (kR, .o (.idxA 55 2 1 (sl 54) (sl 52))),
 (kR, .o (.load1 56 (sl 55))),
 (kR, .o (.move 57 (sl 10))),
 (kR, .o (.move 58 (sl 9))),
 (kR, .o (.fld 59 1 (sl 3))),
 (kR, .o (.load1 60 (sl 59))),
 (kR, .o (.lenS 61 (sl 60))),
 (kR, .o (.bin 62 .mul (sl 58) (sl 61))),
 (kR, .o (.idx 63 1 (sl 56) (sl 57))),
 (kH, .o (.store 1 (sl 63) (sl 62)))])))))
 ((.reg [.o (.bin 64 .add (sl 46) (ci 1)),
 .o (.move 46 (sl 64))]))))))))))))))))
 ((.reg [.o (.bin 65 .add (sl 28) (ci 1)),
 .o (.move 28 (sl 65))])))))))))))
 ((.seq (.seq (.reg [.o (.fld 66 0 (sl 3)),
 .o (.fld 67 0 (sl 66)),
 .o (.load1 68 (sl 67)),
 .o (.lenS 69 (sl 68)),
 .o (.move 70 (ci 0))])
 ((.block 4 (.loop (.seq (.reg [.o (.bin 71 .lss (sl 70) (sl 69))])
 ((.seq (.cond (sl 71) .skip
 (.exit 4))
 ((.seq (.block 5 (.seq (.reg [.o (.move 72 (sl 70)),
 .o (.idx 73 5 (sl 68) (sl 70)),
 .o (.loadN 74 5 (sl 73)),
 .o (.alloc 12 [.v (.int .i64 0), .v (.int .i64 0), .v (.int .i64 0), .v (.int .i64 0), .v (.slice none 0 0)]),
 .o (.move 11 (sl 72)),
 .o (.store 5 (sl 12) (sl 74))])
 ((.seq (.reg [.o (.fld 75 4 (sl 12)),
 .o (.load1 76 (sl 75)),
 .o (.lenS 77 (sl 76)),
 .o (.move 78 (ci 0))])
 ((.block 6 (.loop (.seq (.reg [.o (.bin 79 .lss (sl 78) (sl 77))])
 ((.seq (.cond (sl 79) .skip
 (.exit 6))
 ((.seq (.block 7 (.seq (.reg [.o (.idx 80 1 (sl 76) (sl 78)),
 .o (.load1 81 (sl 80)),
 .o (.move 14 (sl 81))])
 ((.reg [.o (.move 82 (sl 7)),
 .o (.nilc 83 (sl 82)),
 .o (.fld 84 7 (sl 83)),
 .o (.load1 85 (sl 84)),
 .o (.move 86 (sl 14)),
 .o (.move 87 (sl 11)),
 .o (.idx 88 1 (sl 85) (sl 86)),
 .o (.store 1 (sl 88) (sl 87))]))))
 ((.reg [.o (.bin 89 .add (sl 78) (ci 1)),
 .o (.move 78 (sl 89))]))))))))))))))
 ((.reg [.o (.bin 90 .add (sl 70) (ci 1)),
 .o (.move 70 (sl 90))])))))))))))
 ((.seq (.reg [.o (.move 91 (sl 7)),
 .o (.move 6 (sl 91))])
 (.ret))))))))))
theorem fun_impl_newEvaluator_h {rin : List T} {args : List A} {Q : List T → T → Prop} (ha : args.length ≤ 92) (h : cW Try.prog 92 c_impl_newEvaluator_h (retP Try.prog [.tmp 6] rin.length Q) (St.of (enum 0 args) (enum 1000000000 rin))) :
    Fun Try.prog 136 rin args Q :=
  Fun.of (H := ⟨[], [9]⟩) Try.func136 rfl rfl rfl (by kernel_rfl) ha (by decide) h

end Go.Ab

/- Contracts: marks of games, strategies and claims. -/
set_option linter.unusedSimpArgs false
set_option linter.unusedVariables false
namespace Go.Ab
open Go.Proofs

theorem Weak.close1 {n : Nat} {S : St} (r o d : Nat) {t : T} {l : List T} (hd : S.roots d = .live t []) (hr : (S.roots r).cells = some (l, [(o, d)])) (hne : d ≠ r) (hc : l[o]? = some .any) :
    Weak n S ⟨S.env, upd (upd S.roots d .dead) r ((S.roots r).with (l.set o t) [])⟩ := by
  have h := Weak.close (n := n) r o d hd hr hne hc (by simp)
  have e : ([(o, d)] : List (Nat × Nat)).filter (fun p => decide (p.1 < o) || decide (o + 1 ≤ p.1)) = [] := by
    rw [List.filter_cons_of_neg (by simp), List.filter_nil]
  rw [e] at h
  exact h
section
attribute [-go_sem] load1C load1V fldC lenC idxC loadNV nilCheckW
end
end Go.Ab

/- Contracts: numbers of games. -/
set_option linter.unusedSimpArgs false
set_option linter.unusedVariables false
namespace Go.Ab
open Go.Proofs

def evO (g : Gm) (s t : List (List Int)) : T := .box [nodes g.nd, rows g.w, rows g.v, intsO (ownL g 0), intsO (ownL g 1), rows s, rows t, intsO (parN g.nd g.nd.length)]
def evL (g : Gm) (s t : List (List Int)) : List T := [nodes g.nd, rows g.w, rows g.v, ints (ownL g 0), ints (ownL g 1), rows s, rows t, ints (parN g.nd g.nd.length)]
def evB (g : Gm) (s t : List (List Int)) (c3 c4 : T) (par : List Int) : T := .box [nodes g.nd, rows g.w, rows g.v, c3, c4, rows s, rows t, intsO par]
def evC (g : Gm) (q : Int) (b : Bool) : T := if b = true then intsO (ownL g q) else .v (.slice none 0 0)
theorem parN_step {l : List Nd} {i : Nat} {x : Nd} (hx : l[i]? = some x) : parN l (i + 1) = x.ch.foldl (fun P (c : Int) => P.set c.toNat (i : Int)) (parN l i) := by
  rw [parN, List.getD_eq_getElem?_getD, hx]; rfl
def parK (P ch : List Int) (i k : Nat) : List Int := (ch.take k).foldl (fun P (c : Int) => P.set c.toNat (i : Int)) P
theorem parK_succ {P ch : List Int} {i k m : Nat} (h : ch[k]? = some (m : Int)) : parK P ch i (k + 1) = (parK P ch i k).set m (i : Int) := by
  simp only [parK, take_snoc h, List.foldl_append, List.foldl_cons, List.foldl_nil, Int.toNat_natCast]
theorem parK_length (P ch : List Int) (i k : Nat) : (parK P ch i k).length = P.length := by rw [parK, foldl_set_length]
section
attribute [-go_sem] load1C load1V fldC lenC idxC loadNV nilCheckW
set_option maxRecDepth 20000 in
theorem impl_newEvaluator_ok (g : Gm) (s t : Int × List (List Int)) (hg : isGameB g = true) : Fun Try.prog 136 [] [.t (gameT g), .t (stratT s), .t (stratT t)] fun o r => o = [] ∧ r = evO g s.2 t.2 := by
  obtain ⟨p1, p2, p3, p4, p5⟩ := isGameB_parts hg
  obtain ⟨t1, t2, t3, t4⟩ := isTreeB_spec p1
  have hfl : ∀ q j, (fillN (idxs g.nd q g.nd.length) g.w.length g.nd.length j).length = g.nd.length := fun q j => fillN_length _ _ _ _
  have hfs : ∀ q j (n : Nat), (idxs g.nd q g.nd.length)[j]? = some (n : Int) → fillN (idxs g.nd q g.nd.length) g.w.length g.nd.length (j + 1) = (fillN (idxs g.nd q g.nd.length) g.w.length g.nd.length j).set n ((j * g.w.length : Nat) : Int) := fun q j n h => by
    rw [fillN, List.getD_eq_getElem?_getD, h]; rfl
  have hmul : ∀ n : Nat, n ≤ g.nd.length → n * g.w.length ≤ 60 * 6 := fun n hn => Nat.mul_le_mul (by omega) p2.2
  have hoL : ∀ q, ownL g q = fillN (idxs g.nd q g.nd.length) g.w.length g.nd.length (idxs g.nd q g.nd.length).length := fun q => rfl
  have w1 : IntKind.i64.wrap 1 = 1 := rfl
  have w2' : IntKind.i64.wrap (1 + 1) = 2 := rfl
  refine fun_impl_newEvaluator_h (by simp) ?_
  simp -implicitDefEqProofs only [go_sem, evR, ints, rows, rat, rats, c_impl_newEvaluator_h, gameT, stratT, nodes, made_one]
  refine ⟨by omega, by omega, ?_⟩
  refine SemC.loopR (σ := Nat) (fun q => St.of [(3, .own 3), (7, .own 27), (28, .t (.i q))] [(3, .box [nodes g.nd, rows g.w, rows g.v]), (27, evB g s.2 t.2 (evC g 0 (decide (0 < q))) (evC g 1 (decide (1 < q))) (List.replicate g.nd.length 0))]) (fun q => q ≤ 2) (fun q => 2 - q) 0 (Weak.of _ _ [some 3, some 27] (by simp) (by simp) ?_ ?_) (by omega) fun q hq R hn hr he => ?_
  · simp -implicitDefEqProofs only [ints, rows, Nat.reduceBEq, wkR, Nat.reduceEqDiff, ↓reduceIte, wrR, nodes]
  · refine ⟨⟨_, rfl, .refl _⟩, rfl, ⟨_, rfl, ?_⟩, rfl, trivial⟩
    rw [evB, intsO, List.map_replicate]; exact .refl _
  · match q, hq with
    | 0, _ =>
      simp -implicitDefEqProofs only [go_sem, evR, ints, rows, rat, rats, evB, evC, nodes, intsO, decide_eq_true (show (0 : Int) < 2 by omega), Nat.lt_irrefl, decide_false, Bool.false_eq_true, Int.natCast_zero, Int.cast_ofNat_Int, opR, Nat.reduceBEq]
      refine ⟨by omega, by omega, ?_⟩
      refine CallW.res (impl_nodesOf_t g.nd 0 (by omega)) [] rfl Try.call123 ?_ (.inl rfl) ?_
      · simp -implicitDefEqProofs only [agR, Nat.reduceLeDiff, Nat.reduceSub, vaR, go_sem, ints, rows, rat, rats, ratsO, rtR, intsO, rowsO]
      simp -implicitDefEqProofs only [clR, Nat.reduceLeDiff, go_sem, evR, rat, intsO]
      have hil := idxs_length g.nd 0 g.nd.length
      refine SemC.loopR (σ := Nat) (fun j => St.of [(3, .own 3), (7, .own 27), (8, .t (.i 0)), (28, .t (.i 0)), (44, .own 44), (45, .t (.i (idxs g.nd 0 g.nd.length).length)), (46, .t (.i j))] [(3, .box [nodes g.nd, rows g.w, rows g.v]), (27, evB g s.2 t.2 (intsO (fillN (idxs g.nd 0 g.nd.length) g.w.length g.nd.length j)) (.v (.slice none 0 0)) (List.replicate g.nd.length 0)), (44, intsO (idxs g.nd 0 g.nd.length))]) (fun j => j ≤ (idxs g.nd 0 g.nd.length).length) (fun j => (idxs g.nd 0 g.nd.length).length - j) 0 (Weak.of _ _ [some 3, some 27, some 44] (by simp) (by simp) ?_ ?_) (by omega) fun j hj R2 hn2 hr2 he2 => ?_
      · simp -implicitDefEqProofs only [ints, rows, Nat.reduceBEq, wkR, Nat.reduceEqDiff, ↓reduceIte, wrR, nodes]
      · refine ⟨⟨_, rfl, .refl _⟩, rfl, ⟨_, rfl, ?_⟩, rfl, ⟨_, rfl, .refl _⟩, rfl, trivial⟩
        simp only [evB, fillN, made_one, intsO, List.map_replicate]; exact .refl _
      · rcases Nat.lt_or_ge j (idxs g.nd 0 g.nd.length).length with h9 | h9
        · obtain ⟨y, hy⟩ : ∃ y, (idxs g.nd 0 g.nd.length)[j]? = some y := ⟨_, List.getElem?_eq_getElem h9⟩
          obtain ⟨n, rfl, hn1⟩ := idxs_lt' hy
          have hjm := hmul j (by omega)
          simp -implicitDefEqProofs only [go_sem, evR, ints, rows, rat, rats, evB, nodes, hy, intsO, decide_eq_true (show (j : Int) < ((idxs g.nd 0 g.nd.length).length : Int) by omega), hfl]
          refine ⟨by omega, by omega, by omega, ?_⟩
          refine ⟨_, Weak.open 27 3 500 rfl rfl rfl (by decide) rfl, ?_⟩
          simp -implicitDefEqProofs only [go_sem, evR, ints, rows, rat, rats, opR, Nat.reduceBEq, hfl]
          refine ⟨by omega, by omega, by omega, by omega, hn2 _ (j + 1) (Weak.trans (Weak.close1 27 3 500 rfl rfl (by decide) rfl) (Weak.of _ _ [some 3, some 27, some 44] (by simp) (by simp) ?_ ?_)) (by omega) (by omega)⟩
          · simp -implicitDefEqProofs only [ints, rows, Nat.reduceBEq, wkR, Nat.reduceEqDiff, ↓reduceIte, wrR, nodes, next64 h9 (by omega)]
          · refine ⟨⟨_, rfl, .refl _⟩, rfl, ⟨_, rfl, ?_⟩, rfl, ⟨_, rfl, .refl _⟩, rfl, trivial⟩
            rw [hfs _ _ _ hy]; simp only [evB, intsO, List.map_set]; rw [wrap64 (n := (j : Int) * (g.w.length : Int)) (by omega) (by omega), ← Int.natCast_mul]; exact .refl _
        · have hjl : j = (idxs g.nd 0 g.nd.length).length := by omega
          subst hjl
          simp -implicitDefEqProofs only [go_sem, evR, ints, rows, rat, rats, evB, nodes, intsO, decide_eq_false (show ¬ ((idxs g.nd 0 g.nd.length).length : Int) < ((idxs g.nd 0 g.nd.length).length : Int) by omega)]
          refine he2 _ _ ?_
          simp -implicitDefEqProofs only [go_sem, evR, ints, rows, rat, rats]
          rw [← hoL]
          refine hn _ 1 (Weak.of _ _ [some 3, some 27] (by simp) (by simp) ?_ ?_) (by omega) (by omega)
          · simp -implicitDefEqProofs only [ints, rows, Nat.reduceBEq, wkR, Nat.reduceEqDiff, ↓reduceIte, wrR, nodes, Int.zero_add, w1]
          · exact ⟨⟨_, rfl, .refl _⟩, rfl, ⟨_, rfl, .refl _⟩, rfl, trivial⟩
    | 1, _ =>
      simp -implicitDefEqProofs only [go_sem, evR, ints, rows, rat, rats, evB, evC, nodes, intsO, decide_eq_true (show (1 : Int) < 2 by omega), Nat.lt_irrefl, Nat.zero_lt_one, decide_true, decide_false, Bool.false_eq_true, Int.natCast_zero, Int.cast_ofNat_Int, opR, Nat.reduceBEq]
      refine ⟨by omega, by omega, ?_⟩
      refine CallW.res (impl_nodesOf_t g.nd 1 (by omega)) [] rfl Try.call123 ?_ (.inl rfl) ?_
      · simp -implicitDefEqProofs only [agR, Nat.reduceLeDiff, Nat.reduceSub, vaR, go_sem, ints, rows, rat, rats, ratsO, rtR, intsO, rowsO]
      simp -implicitDefEqProofs only [clR, Nat.reduceLeDiff, go_sem, evR, rat, intsO]
      have hil := idxs_length g.nd 1 g.nd.length
      refine SemC.loopR (σ := Nat) (fun j => St.of [(3, .own 3), (7, .own 27), (8, .t (.i 1)), (28, .t (.i 1)), (44, .own 44), (45, .t (.i (idxs g.nd 1 g.nd.length).length)), (46, .t (.i j))] [(3, .box [nodes g.nd, rows g.w, rows g.v]), (27, evB g s.2 t.2 (intsO (ownL g 0)) (intsO (fillN (idxs g.nd 1 g.nd.length) g.w.length g.nd.length j)) (List.replicate g.nd.length 0)), (44, intsO (idxs g.nd 1 g.nd.length))]) (fun j => j ≤ (idxs g.nd 1 g.nd.length).length) (fun j => (idxs g.nd 1 g.nd.length).length - j) 0 (Weak.of _ _ [some 3, some 27, some 44] (by simp) (by simp) ?_ ?_) (by omega) fun j hj R2 hn2 hr2 he2 => ?_
      · simp -implicitDefEqProofs only [ints, rows, Nat.reduceBEq, wkR, Nat.reduceEqDiff, ↓reduceIte, wrR, nodes]
      · refine ⟨⟨_, rfl, .refl _⟩, rfl, ⟨_, rfl, ?_⟩, rfl, ⟨_, rfl, .refl _⟩, rfl, trivial⟩
        simp only [evB, fillN, made_one, intsO, List.map_replicate]; exact .refl _
      · rcases Nat.lt_or_ge j (idxs g.nd 1 g.nd.length).length with h9 | h9
        · obtain ⟨y, hy⟩ : ∃ y, (idxs g.nd 1 g.nd.length)[j]? = some y := ⟨_, List.getElem?_eq_getElem h9⟩
          obtain ⟨n, rfl, hn1⟩ := idxs_lt' hy
          have hjm := hmul j (by omega)
          simp -implicitDefEqProofs only [go_sem, evR, ints, rows, rat, rats, evB, nodes, hy, intsO, decide_eq_true (show (j : Int) < ((idxs g.nd 1 g.nd.length).length : Int) by omega), hfl]
          refine ⟨by omega, by omega, by omega, ?_⟩
          refine ⟨_, Weak.open 27 4 500 rfl rfl rfl (by decide) rfl, ?_⟩
          simp -implicitDefEqProofs only [go_sem, evR, ints, rows, rat, rats, opR, Nat.reduceBEq, hfl]
          refine ⟨by omega, by omega, by omega, by omega, hn2 _ (j + 1) (Weak.trans (Weak.close1 27 4 500 rfl rfl (by decide) rfl) (Weak.of _ _ [some 3, some 27, some 44] (by simp) (by simp) ?_ ?_)) (by omega) (by omega)⟩
          · simp -implicitDefEqProofs only [ints, rows, Nat.reduceBEq, wkR, Nat.reduceEqDiff, ↓reduceIte, wrR, nodes, next64 h9 (by omega)]
          · refine ⟨⟨_, rfl, .refl _⟩, rfl, ⟨_, rfl, ?_⟩, rfl, ⟨_, rfl, .refl _⟩, rfl, trivial⟩
            rw [hfs _ _ _ hy]; simp only [evB, intsO, List.map_set]; rw [wrap64 (n := (j : Int) * (g.w.length : Int)) (by omega) (by omega), ← Int.natCast_mul]; exact .refl _
        · have hjl : j = (idxs g.nd 1 g.nd.length).length := by omega
          subst hjl
          simp -implicitDefEqProofs only [go_sem, evR, ints, rows, rat, rats, evB, nodes, intsO, decide_eq_false (show ¬ ((idxs g.nd 1 g.nd.length).length : Int) < ((idxs g.nd 1 g.nd.length).length : Int) by omega)]
          refine he2 _ _ ?_
          simp -implicitDefEqProofs only [go_sem, evR, ints, rows, rat, rats]
          rw [← hoL]
          refine hn _ 2 (Weak.of _ _ [some 3, some 27] (by simp) (by simp) ?_ ?_) (by omega) (by omega)
          · simp -implicitDefEqProofs only [ints, rows, Nat.reduceBEq, wkR, Nat.reduceEqDiff, ↓reduceIte, wrR, nodes, w2']
          · exact ⟨⟨_, rfl, .refl _⟩, rfl, ⟨_, rfl, .refl _⟩, rfl, trivial⟩
    | 2, _ =>
      simp -implicitDefEqProofs only [go_sem, evR, ints, rows, rat, rats, evB, evC, nodes, intsO, decide_eq_false (show ¬ (2 : Int) < 2 by omega), Nat.lt_irrefl, decide_false, Bool.false_eq_true, Int.natCast_zero, Int.cast_ofNat_Int]
      refine he _ _ ?_
      simp -implicitDefEqProofs only [go_sem, evR, ints, rows, rat, rats]
      refine SemC.loopR (σ := Nat) (fun i => St.of [(7, .own 27), (68, .t (nodes g.nd)), (69, .t (.i g.nd.length)), (70, .t (.i i))] [(27, evB g s.2 t.2 (intsO (ownL g 0)) (intsO (ownL g 1)) (parN g.nd i))]) (fun i => i ≤ g.nd.length) (fun i => g.nd.length - i) 0 (Weak.of _ _ [some 27] (by simp) (by simp) ?_ ?_) (by omega) fun i hi R3 hn3 hr3 he3 => ?_
      · simp -implicitDefEqProofs only [ints, rows, Nat.reduceBEq, wkR, Nat.reduceEqDiff, ↓reduceIte, wrR, nodes, nd_len]
      · exact ⟨⟨_, rfl, .refl _⟩, rfl, trivial⟩
      · rcases Nat.lt_or_ge i g.nd.length with h9 | h9
        · obtain ⟨x, hx⟩ : ∃ x, g.nd[i]? = some x := ⟨_, List.getElem?_eq_getElem h9⟩
          have hch := ndOK_child (t2 i _ hx)
          obtain ⟨_, _, _, _, _, hch4⟩ := ndOK_fields (t2 i _ hx)
          simp -implicitDefEqProofs only [go_sem, evR, ints, rows, rat, rats, nodes, nd_at hx, decide_eq_true (show (i : Int) < (g.nd.length : Int) by omega), opR, Nat.reduceBEq]
          refine ⟨by omega, by rw [nd_len]; omega, by rw [nd_len]; omega, ?_⟩
          refine SemC.loopR (σ := Nat) (fun k => St.of [(7, .own 27), (11, .t (.i i)), (68, .t (nodes g.nd)), (69, .t (.i g.nd.length)), (70, .t (.i i)), (76, .t (ints x.ch)), (77, .t (.i x.ch.length)), (78, .t (.i k))] [(27, evB g s.2 t.2 (intsO (ownL g 0)) (intsO (ownL g 1)) (parK (parN g.nd i) x.ch i k))]) (fun k => k ≤ x.ch.length) (fun k => x.ch.length - k) 0 (Weak.of _ _ [some 27] (by simp) (by simp) ?_ ?_) (by omega) fun k hk R4 hn4 hr4 he4 => ?_
          · simp -implicitDefEqProofs only [ints, rows, Nat.reduceBEq, wkR, Nat.reduceEqDiff, ↓reduceIte, wrR, nodes]
          · exact ⟨⟨_, rfl, .refl _⟩, rfl, trivial⟩
          · rcases Nat.lt_or_ge k x.ch.length with h10 | h10
            · obtain ⟨c, hc⟩ : ∃ c, x.ch[k]? = some c := ⟨_, List.getElem?_eq_getElem h10⟩
              have hcb := hch c (List.mem_of_getElem? hc)
              obtain ⟨m, rfl⟩ : ∃ m : Nat, c = m := ⟨c.toNat, by omega⟩
              have hpl : (parK (parN g.nd i) x.ch i k).length = g.nd.length := by rw [parK_length, parN_length]
              simp -implicitDefEqProofs only [go_sem, evR, ints, rows, rat, rats, evB, nodes, intsO, hc, decide_eq_true (show (k : Int) < (x.ch.length : Int) by omega), hpl, opR, Nat.reduceBEq]
              refine ⟨by omega, by omega, by omega, by omega, by omega, by omega, hn4 _ (k + 1) (Weak.trans (Weak.close1 27 7 85 rfl rfl (by decide) rfl) (Weak.of _ _ [some 27] (by simp) (by simp) ?_ ?_)) (by omega) (by omega)⟩
              · simp -implicitDefEqProofs only [ints, rows, Nat.reduceBEq, wkR, Nat.reduceEqDiff, ↓reduceIte, wrR, nodes, next64 h10 (show x.ch.length ≤ 1000000000000 by omega)]
              · refine ⟨⟨_, rfl, ?_⟩, rfl, trivial⟩
                rw [parK_succ hc]; simp only [evB, intsO, List.map_set]; exact .refl _
            · simp -implicitDefEqProofs only [go_sem, evR, ints, rows, rat, rats, evB, nodes, intsO, decide_eq_false (show ¬ (k : Int) < (x.ch.length : Int) by omega)]
              refine he4 _ _ ?_
              simp -implicitDefEqProofs only [go_sem, evR, ints, rows, rat, rats]
              refine hn3 _ (i + 1) (Weak.of _ _ [some 27] (by simp) (by simp) ?_ ?_) (by omega) (by omega)
              · simp -implicitDefEqProofs only [ints, rows, Nat.reduceBEq, wkR, Nat.reduceEqDiff, ↓reduceIte, wrR, nodes, next64 h9 (by omega)]
              · refine ⟨⟨_, rfl, ?_⟩, rfl, trivial⟩
                rw [parN_step hx, show k = x.ch.length by omega, parK, List.take_of_length_le (Nat.le_refl _)]; exact .refl _
        · simp -implicitDefEqProofs only [go_sem, evR, ints, rows, rat, rats, nodes, decide_eq_false (show ¬ (i : Int) < (g.nd.length : Int) by omega)]
          refine he3 _ _ ?_
          simp -implicitDefEqProofs only [go_sem, evR, ints, rows, rat, rats, evB]
          rw [show i = g.nd.length by omega]; rfl
end
end Go.Ab

/- Contracts: values of nodes and numbers of games. -/
set_option linter.unusedSimpArgs false
set_option linter.unusedVariables false
namespace Go.Ab
open Go.Proofs

def chP (g : Gm) (s t : List (List Int)) (i a b : Nat) : List Int := if (g.nd.getD i nd0).p = 0 then partsOf g s 0 i a else partsOf g t 1 i b
theorem partsOK_row {g : Gm} {pt : List (List Int)} {pl : Int} (hnd : ndsOK g.nd) (hpl : pl ≠ 2) (h : partsOK g pt pl) {i c : Nat} (hi : i < g.nd.length) (hc : c < g.w.length) (hp : (g.nd.getD i nd0).p = pl) : pt[setI g pl i c]? = some (partsOf g pt pl i c) := by
  obtain ⟨m1, m2, m3⟩ := h i c hi hc hp
  unfold partsOf at m3 ⊢
  rw [List.getD_eq_getElem?_getD] at m3 ⊢
  cases hx : pt[setI g pl i c]? with
  | some x => rfl
  | none => rw [hx] at m3; simp [sumI] at m3
theorem chP_spec {g : Gm} {s t : List (List Int)} (hnd : ndsOK g.nd) (hs : partsOK g s 0) (ht : partsOK g t 1) {i a b : Nat} (hi : i < g.nd.length) (ha : a < g.w.length) (hb : b < g.w.length) (h2 : (g.nd.getD i nd0).p ≠ 2) :
    (chP g s t i a b).length = (g.nd.getD i nd0).ch.length ∧ (∀ x ∈ chP g s t i a b, 0 ≤ x ∧ x ≤ 60) ∧ sumI (chP g s t i a b) = 60 := by
  have hx : g.nd[i]? = some (g.nd.getD i nd0) := by rw [List.getD_eq_getElem?_getD, List.getElem?_eq_getElem hi]; rfl
  obtain ⟨⟨r1, r2⟩, _⟩ := ndOK_fields (hnd i _ hx)
  unfold chP
  by_cases h0 : (g.nd.getD i nd0).p = 0
  · rw [if_pos h0]; exact hs i a hi ha h0
  · rw [if_neg h0]; exact ht i b hi hb (by omega)
theorem valK_all {g : Gm} {s t : List (List Int)} {f i a b p : Nat} (h2 : (g.nd.getD i nd0).p ≠ 2) {n : Nat} (hn : (g.nd.getD i nd0).ch.length ≤ n) : valK g s t f a b (p - 1) (chP g s t i a b) (g.nd.getD i nd0).ch n = val g s t (f + 1) i a b p := by
  rw [val]
  (try simp only [])
  rw [if_neg h2, valK, chP, List.take_of_length_le]
  rw [List.length_zipWith]; omega
theorem valK_abs {g : Gm} {s t : List (List Int)} (hnd : ndsOK g.nd) (hs : partsOK g s 0) (ht : partsOK g t 1) {a b : Nat} (ha : a < g.w.length) (hb : b < g.w.length) {f p : Nat} {q ch : List Int} (hq : ∀ x ∈ q, 0 ≤ x ∧ x ≤ 60) (hc : ∀ c ∈ ch, 0 ≤ c ∧ c.toNat < g.nd.length ∧ dep g.nd f c.toNat ≤ p) : ∀ k, k ≤ q.length → k ≤ ch.length → -(k * (6000 * pw p)) ≤ valK g s t f a b p q ch k ∧ valK g s t f a b p q ch k ≤ k * (6000 * pw p)
  | 0, _, _ => by simp [valK, sumI]
  | k + 1, h, h' => by
    have ih := valK_abs hnd hs ht ha hb hq hc k (by omega) (by omega)
    have hx := List.getElem?_eq_getElem (show k < q.length by omega)
    have hy := List.getElem?_eq_getElem (show k < ch.length by omega)
    rw [valK_succ hx hy]
    have h1 := hq _ (List.getElem_mem (show k < q.length by omega))
    have h2 := hc _ (List.getElem_mem (show k < ch.length by omega))
    have h3 := val_abs hnd hs ht ha hb f _ p h2.2.1 h2.2.2
    obtain ⟨m1, m2⟩ := mul_abs h1.1 h3.1 h3.2
    have hp := pw_pos p
    have m3 : 100 * pw p * q[k] ≤ 100 * pw p * 60 := Int.mul_le_mul_of_nonneg_left h1.2 (by omega)
    have e : ((k + 1 : Nat) : Int) * (6000 * pw p) = (k : Int) * (6000 * pw p) + 6000 * pw p := by rw [Int.natCast_succ, Int.add_mul, Int.one_mul]
    rw [e]
    generalize (k : Int) * (6000 * pw p) = Z at ih ⊢
    generalize q[k] * val g s t f (ch[k]).toNat a b p = Y at m1 m2 ⊢
    generalize 100 * pw p * q[k] = U at m1 m2 m3
    omega
theorem pw_le5 {p : Nat} (h : p ≤ 5) : 1 ≤ pw p ∧ pw p ≤ 777600000 := by
  have : p = 0 ∨ p = 1 ∨ p = 2 ∨ p = 3 ∨ p = 4 ∨ p = 5 := by omega
  rcases this with rfl | rfl | rfl | rfl | rfl | rfl <;> decide

def gF (g : Gm) (s t : List (List Int)) (a b : Nat) : Int := (g.w.getD a []).getD b 0 * val g s t g.nd.length 0 a b (dpt g)
theorem gnum_eq (g : Gm) (s t : List (List Int)) : gnum g s t = sumI ((List.range g.w.length).map fun a => sumI ((List.range g.w.length).map (gF g s t a))) := rfl
theorem gF_abs {g : Gm} {s t : List (List Int)} (hg : isGameB g = true) (hs : partsOK g s 0) (ht : partsOK g t 1) {a b : Nat} (ha : a < g.w.length) (hb : b < g.w.length) : -700000000000 ≤ gF g s t a b ∧ gF g s t a b ≤ 700000000000 := by
  obtain ⟨p1, p2, p3, p4, p5⟩ := isGameB_parts hg
  obtain ⟨t1, t2, t3, t4⟩ := isTreeB_spec p1
  obtain ⟨u1, u2, u3, u4, u5, u6, u7⟩ := game_unit hg
  obtain ⟨r, y, h1, h2, h3, h4⟩ := game_w hg ha hb
  have hv := val_abs t2 hs ht ha hb g.nd.length 0 (dpt g) (by omega) (by omega)
  unfold gF
  rw [show (g.w.getD a []).getD b 0 = y by simp only [List.getD_eq_getElem?_getD, h1, Option.getD_some, h2]]
  obtain ⟨m1, m2⟩ := mul_abs h3 hv.1 hv.2
  have m3 : 100 * pw (dpt g) * y ≤ 77760000000 * 9 := Int.mul_le_mul (by omega) h4 h3 (by decide)
  omega
theorem sumI_rsucc (F : Nat → Int) (n : Nat) : sumI ((List.range (n + 1)).map F) = sumI ((List.range n).map F) + F n := by
  rw [List.range_succ, List.map_append, List.map_cons, List.map_nil, sumI_snoc]
theorem gR_abs {g : Gm} {s t : List (List Int)} (hg : isGameB g = true) (hs : partsOK g s 0) (ht : partsOK g t 1) {a : Nat} (ha : a < g.w.length) {n : Nat} (hn : n ≤ g.w.length) : -(n * 700000000000) ≤ sumI ((List.range n).map (gF g s t a)) ∧ sumI ((List.range n).map (gF g s t a)) ≤ n * 700000000000 :=
  sumI_range_abs fun b hb => gF_abs hg hs ht ha (by omega)
theorem gS_abs {g : Gm} {s t : List (List Int)} (hg : isGameB g = true) (hs : partsOK g s 0) (ht : partsOK g t 1) {n : Nat} (hn : n ≤ g.w.length) : -(n * 4200000000000) ≤ sumI ((List.range n).map fun a => sumI ((List.range g.w.length).map (gF g s t a))) ∧ sumI ((List.range n).map fun a => sumI ((List.range g.w.length).map (gF g s t a))) ≤ n * 4200000000000 := by
  obtain ⟨p1, p2, p3, p4, p5⟩ := isGameB_parts hg
  refine sumI_range_abs fun a ha => ?_
  have h := gR_abs hg hs ht (a := a) (by omega) (Nat.le_refl g.w.length)
  omega
theorem gnum_abs {g : Gm} {s t : List (List Int)} (hg : isGameB g = true) (hs : partsOK g s 0) (ht : partsOK g t 1) : -25200000000000 ≤ gnum g s t ∧ gnum g s t ≤ 25200000000000 := by
  obtain ⟨p1, p2, p3, p4, p5⟩ := isGameB_parts hg
  have h := gS_abs hg hs ht (Nat.le_refl g.w.length)
  rw [gnum_eq]
  omega
section
attribute [-go_sem] load1C load1V fldC lenC idxC loadNV nilCheckW
set_option maxRecDepth 20000 in
theorem impl_partsAt_ok {g : Gm} {s t : List (List Int)} (hg : isGameB g = true) (hs : partsOK g s 0) (ht : partsOK g t 1) {i a b : Nat} (hi : i < g.nd.length) (ha : a < g.w.length) (hb : b < g.w.length) (h2 : (g.nd.getD i nd0).p ≠ 2) :
    Pure Try.prog 162 [.pin (evL g s t) 0, .i i, .i a, .i b] (ints (chP g s t i a b)) := by
  obtain ⟨p1, p2, p3, p4, p5⟩ := isGameB_parts hg
  obtain ⟨t1, t2, t3, t4⟩ := isTreeB_spec p1
  obtain ⟨x, hx⟩ : ∃ x, g.nd[i]? = some x := ⟨_, List.getElem?_eq_getElem hi⟩
  have hxd : g.nd.getD i nd0 = x := by rw [List.getD_eq_getElem?_getD, hx]; rfl
  obtain ⟨⟨r1, r2⟩, _⟩ := ndOK_fields (t2 _ _ hx)
  rw [hxd] at h2
  refine fun___impl_evaluator__partsAt (by simp) ?_
  have hcase : x.p = 0 ∨ x.p = 1 := by omega
  rcases hcase with h0 | h0
  · have hpd : (g.nd.getD i nd0).p = 0 := by rw [hxd]; exact h0
    have hrow := partsOK_row t2 (by decide) hs hi ha hpd
    have hoi := ownL_get hi hpd
    have hol := ownL_length g 0
    have hrl := (List.getElem?_eq_some_iff.1 hrow).1
    have hset : setI g 0 i a = (idxs g.nd 0 i).length * g.w.length + a := rfl
    have hil := idxs_length g.nd 0 i
    have hm : (idxs g.nd 0 i).length * g.w.length ≤ 60 * 6 := Nat.mul_le_mul (by omega) p2.2
    rw [chP, if_pos hpd]
    simp -implicitDefEqProofs only [go_sem, evR, ints, rows, rat, rats, c___impl_evaluator__partsAt, evL, nodes, nd_get0 hx, h0, hoi, hrow, hol, show ((0 : Int) == 1) = false from rfl, show ((1 : Int) == 1) = true from rfl, show IntKind.i64.wrap ((((idxs g.nd 0 i).length * g.w.length : Nat) : Int) + (a : Int)) = ((setI g 0 i a : Nat) : Int) by rw [wrap64 (by omega) (by omega)]; omega]
    rw [nd_len]; omega
  · have hpd : (g.nd.getD i nd0).p = 1 := by rw [hxd]; exact h0
    have hrow := partsOK_row t2 (by decide) ht hi hb hpd
    have hoi := ownL_get hi hpd
    have hol := ownL_length g 1
    have hrl := (List.getElem?_eq_some_iff.1 hrow).1
    have hset : setI g 1 i b = (idxs g.nd 1 i).length * g.w.length + b := rfl
    have hil := idxs_length g.nd 1 i
    have hm : (idxs g.nd 1 i).length * g.w.length ≤ 60 * 6 := Nat.mul_le_mul (by omega) p2.2
    rw [chP, if_neg (by omega)]
    simp -implicitDefEqProofs only [go_sem, evR, ints, rows, rat, rats, c___impl_evaluator__partsAt, evL, nodes, nd_get0 hx, h0, hoi, hrow, hol, show ((0 : Int) == 1) = false from rfl, show ((1 : Int) == 1) = true from rfl, show IntKind.i64.wrap ((((idxs g.nd 1 i).length * g.w.length : Nat) : Int) + (b : Int)) = ((setI g 1 i b : Nat) : Int) by rw [wrap64 (by omega) (by omega)]; omega]
    rw [nd_len]; omega
theorem partsAt_t {g : Gm} {s t : List (List Int)} (hg : isGameB g = true) (hs : partsOK g s 0) (ht : partsOK g t 1) {i a b : Nat} (hi : i < g.nd.length) (ha : a < g.w.length) (hb : b < g.w.length) (h2 : (g.nd.getD i nd0).p ≠ 2) :
    Pure Try.prog 162 [.pin [.sh 5 (chunk nodeC g.nd), .sh 1 (g.w.map ints), .sh 1 (g.v.map ints), .sh 1 ((ownL g 0).map T.i), .sh 1 ((ownL g 1).map T.i), .sh 1 (s.map ints), .sh 1 (t.map ints), .sh 1 ((parN g.nd g.nd.length).map T.i)] 0, .i i, .i a, .i b] (ints (chP g s t i a b)) := impl_partsAt_ok hg hs ht hi ha hb h2
theorem value_t {g : Gm} {s t : List (List Int)} {i a b p : Int} {r : Int} (h : Pure Try.prog 137 [.pin (evL g s t) 0, .i i, .i a, .i b, .i p] (.i r)) :
    Pure Try.prog 137 [.pin [.sh 5 (chunk nodeC g.nd), .sh 1 (g.w.map ints), .sh 1 (g.v.map ints), .sh 1 ((ownL g 0).map T.i), .sh 1 ((ownL g 1).map T.i), .sh 1 (s.map ints), .sh 1 (t.map ints), .sh 1 ((parN g.nd g.nd.length).map T.i)] 0, .i i, .i a, .i b, .i p] (.i r) := h
set_option maxRecDepth 20000 in
theorem impl_value_ok {g : Gm} {s t : List (List Int)} (hg : isGameB g = true) (hs : partsOK g s 0) (ht : partsOK g t 1) {a b : Nat} (ha : a < g.w.length) (hb : b < g.w.length) : ∀ (f i p : Nat), g.nd.length ≤ i + f → i < g.nd.length → dep g.nd f i ≤ p → p ≤ 5 →
    Pure Try.prog 137 [.pin (evL g s t) 0, .i i, .i a, .i b, .i p] (.i (val g s t f i a b p)) := by
  obtain ⟨p1, p2, p3, p4, p5⟩ := isGameB_parts hg
  obtain ⟨t1, t2, t3, t4⟩ := isTreeB_spec p1
  have hpay := payOK_of t2
  intro f
  induction f with
  | zero => intro i p h1 h2; omega
  | succ f ih =>
    intro i p hf hi hdp hp5
    obtain ⟨x, hx⟩ : ∃ x, g.nd[i]? = some x := ⟨_, List.getElem?_eq_getElem hi⟩
    have hxd : g.nd.getD i nd0 = x := by rw [List.getD_eq_getElem?_getD, hx]; rfl
    have hxl := (ndOK_fields (t2 _ _ hx)).2.2.2.2.2
    have hpw := pw_le5 hp5
    have hV2 : x.p = 2 → val g s t (f + 1) i a b p = pay g i a b * pw p := fun h => by rw [val]; (try simp only []); rw [if_pos (by rw [hxd]; exact h)]
    have hV1 : x.p ≠ 2 → ∀ n, x.ch.length ≤ n → valK g s t f a b (p - 1) (chP g s t i a b) x.ch n = val g s t (f + 1) i a b p := fun h n hn => by
      have := valK_all (g := g) (s := s) (t := t) (f := f) (i := i) (a := a) (b := b) (p := p) (n := n) (by rw [hxd]; exact h) (by rw [hxd]; exact hn)
      rw [hxd] at this; exact this
    generalize val g s t (f + 1) i a b p = V' at hV2 hV1 ⊢
    refine fun___impl_evaluator__value (by simp) ?_
    simp -implicitDefEqProofs only [go_sem, evR, ints, rows, rat, rats, c___impl_evaluator__value, evL, nodes, nd_at hx]
    refine ⟨by omega, by rw [nd_len]; omega, by rw [nd_len]; omega, ?_⟩
    refine ⟨fun h2 => ?_, fun h2 => ?_⟩
    · have h2 : x.p = 2 := by simpa using h2
      rw [hV2 h2]
      refine CallW.pure (payoffAt_t hg i a b hi ha hb) [] rfl Try.call158 ?_ (by first | trivial | simp [T.noSh, T.noShL, rat]) rfl ?_
      · simp -implicitDefEqProofs only [agR, Nat.reduceLeDiff, Nat.reduceSub, vaR, go_sem, ints, rows, rat, rats, ratsO, rtR, intsO, rowsO]
      simp -implicitDefEqProofs only [go_sem, evR, ints, rows, rat, rats]
      refine CallW.pure (impl_powerOf_ok p (by omega)) [] rfl Try.call127 ?_ (by first | trivial | simp [T.noSh, T.noShL, rat]) rfl ?_
      · simp -implicitDefEqProofs only [agR, Nat.reduceLeDiff, Nat.reduceSub, vaR, go_sem, ints, rows, rat, rats, ratsO, rtR, intsO, rowsO]
      simp -implicitDefEqProofs only [go_sem, evR, ints, rows, rat, rats]
      have q1 := hpay i a b
      have m1 := Int.mul_le_mul_of_nonneg_right q1.2 (show 0 ≤ pw p by omega)
      have m2 := Int.mul_le_mul_of_nonneg_right q1.1 (show 0 ≤ pw p by omega)
      rw [wrap64 (n := pay g i a b * pw p) (by omega) (by omega)]
    · have h2 : x.p ≠ 2 := by simpa using h2
      have hp2 : (g.nd.getD i nd0).p ≠ 2 := by rw [hxd]; exact h2
      obtain ⟨d1, d2⟩ := dep_child (f := f) hp2
      rw [hxd] at d2
      have hch := ndOK_child (t2 _ _ hx)
      obtain ⟨c1, c2, c3⟩ := chP_spec t2 hs ht hi ha hb hp2
      rw [hxd] at c1
      obtain ⟨p', rfl⟩ : ∃ p', p = p' + 1 := ⟨p - 1, by omega⟩
      have hpw' := pw_le5 (show p' ≤ 5 by omega)
      have hcond : ∀ c ∈ x.ch, 0 ≤ c ∧ c.toNat < g.nd.length ∧ dep g.nd f c.toNat ≤ p' := fun c hc => by
        have h1 := hch c hc
        have h3 := d2 c hc
        omega
      refine CallW.res (partsAt_t hg hs ht hi ha hb hp2) [] rfl Try.call162 ?_ (.inl rfl) ?_
      · simp -implicitDefEqProofs only [agR, Nat.reduceLeDiff, Nat.reduceSub, vaR, go_sem, ints, rows, rat, rats, ratsO, rtR, intsO, rowsO]
      simp -implicitDefEqProofs only [clR, Nat.reduceLeDiff, go_sem, evR, rat, ints]
      rw [Nat.add_sub_cancel] at hV1
      generalize chP g s t i a b = q at hV1 c1 c2 c3 ⊢
      have hKA := valK_abs t2 hs ht ha hb (f := f) c2 hcond
      refine SemC.loopR (σ := Nat) (fun k => St.of [(0, .t (.pin (evL g s t) 0)), (1, .t (.i i)), (2, .t (.i a)), (3, .t (.i b)), (4, .t (.i (p' + 1 : Nat))), (11, .own 11), (12, .t (.i (valK g s t f a b p' q x.ch k))), (42, .t (ints q)), (43, .t (.i q.length)), (44, .t (.i k))] [(11, .box [.i x.p, .i x.a, .i x.b, .i x.f, ints x.ch])]) (fun k => k ≤ q.length) (fun k => q.length - k) 0 (Weak.of _ _ [some 11] (by simp) (by simp) ?_ ?_) (by omega) fun k hk R hn hr he => ?_
      · simp -implicitDefEqProofs only [ints, rows, Nat.reduceBEq, wkR, Nat.reduceEqDiff, ↓reduceIte, wrR, evL, nodes, show valK g s t f a b p' q x.ch 0 = 0 from rfl]
      · exact ⟨⟨_, rfl, .refl _⟩, rfl, trivial⟩
      · rcases Nat.lt_or_ge k q.length with h9 | h9
        · obtain ⟨y, hy⟩ : ∃ y, q[k]? = some y := ⟨_, List.getElem?_eq_getElem h9⟩
          obtain ⟨c, hc⟩ : ∃ c, x.ch[k]? = some c := ⟨_, List.getElem?_eq_getElem (by omega)⟩
          have hyb := c2 y (List.mem_of_getElem? hy)
          have hcb := hcond c (List.mem_of_getElem? hc)
          have hcb1 := hch c (List.mem_of_getElem? hc)
          have hsu := valK_succ (g := g) (s := s) (t := t) (f := f) (a := a) (b := b) (p := p') hy hc
          have k1 := hKA k (by omega) (by omega)
          have k2 := hKA (k + 1) (by omega) (by omega)
          have k3 : (k : Int) * (6000 * pw p') ≤ 4 * 4665600000000 := Int.mul_le_mul (by omega) (by omega) (by omega) (by decide)
          have k4 : ((k + 1 : Nat) : Int) * (6000 * pw p') ≤ 4 * 4665600000000 := Int.mul_le_mul (by omega) (by omega) (by omega) (by decide)
          simp -implicitDefEqProofs only [go_sem, evR, ints, rows, rat, rats, evL, nodes, hy, hc, decide_eq_true (show (k : Int) < (q.length : Int) by omega), wrap64 (n := (p' : Int)) (by omega) (by omega), show ((p' + 1 : Nat) : Int) - 1 = (p' : Int) by omega]
          refine ⟨by omega, by omega, by omega, fun h5 => ⟨by omega, by omega, by omega, ?_⟩, fun h5 => ?_⟩
          · have hcall := value_t (ih c.toNat p' (by omega) hcb.2.1 hcb.2.2 (by omega))
            rw [show ((c.toNat : Nat) : Int) = c by omega] at hcall
            have hva := val_abs t2 hs ht ha hb f c.toNat p' hcb.2.1 hcb.2.2
            obtain ⟨m1, m2⟩ := mul_abs hyb.1 hva.1 hva.2
            have m3 : 100 * pw p' * y ≤ 77760000000 * 60 := Int.mul_le_mul (by omega) hyb.2 hyb.1 (by decide)
            refine CallW.pure hcall [] rfl Try.call137 ?_ (by first | trivial | simp [T.noSh, T.noShL, rat]) rfl ?_
            · simp -implicitDefEqProofs only [agR, Nat.reduceLeDiff, Nat.reduceSub, vaR, go_sem, ints, rows, rat, rats, ratsO, rtR, intsO, rowsO]
            simp -implicitDefEqProofs only [go_sem, evR, ints, rows, rat, rats]
            refine hn _ (k + 1) (Weak.of _ _ [some 11] (by simp) (by simp) ?_ ?_) (by omega) (by omega)
            · simp -implicitDefEqProofs only [ints, rows, Nat.reduceBEq, wkR, Nat.reduceEqDiff, ↓reduceIte, wrR, evL, nodes, next64 h9 (by omega), wrap64 (n := y * val g s t f c.toNat a b p') (by omega) (by omega), ← hsu, wrap64 (n := valK g s t f a b p' q x.ch (k + 1)) (by omega) (by omega)]
            · exact ⟨⟨_, rfl, .refl _⟩, rfl, trivial⟩
          · have hy0 : y = 0 := by have : ¬ y > 0 := by simpa using h5
                                   omega
            rw [hy0, Int.zero_mul, Int.add_zero] at hsu
            refine hn _ (k + 1) (Weak.of _ _ [some 11] (by simp) (by simp) ?_ ?_) (by omega) (by omega)
            · simp -implicitDefEqProofs only [ints, rows, Nat.reduceBEq, wkR, Nat.reduceEqDiff, ↓reduceIte, wrR, evL, nodes, next64 h9 (by omega), hsu]
            · exact ⟨⟨_, rfl, .refl _⟩, rfl, trivial⟩
        · simp -implicitDefEqProofs only [go_sem, evR, ints, rows, rat, rats, evL, nodes, decide_eq_false (show ¬ (k : Int) < (q.length : Int) by omega)]
          refine he _ _ ?_
          simp -implicitDefEqProofs only [go_sem, evR, ints, rows, rat, rats]
          rw [hV1 h2 k (by omega)]

theorem newEv_t (g : Gm) (s t : Int × List (List Int)) (hg : isGameB g = true) : Fun Try.prog 136 [] [.t (.agg [.sh 5 (chunk nodeC g.nd), .sh 1 (g.w.map ints), .sh 1 (g.v.map ints)]), .t (.agg [.i s.1, .sh 1 (s.2.map ints)]), .t (.agg [.i t.1, .sh 1 (t.2.map ints)])] fun o r => o = [] ∧ r = evO g s.2 t.2 := impl_newEvaluator_ok g s t hg
def gS (g : Gm) (s t : List (List Int)) (a : Nat) : Int := sumI ((List.range a).map fun a => sumI ((List.range g.w.length).map (gF g s t a)))
def gT (g : Gm) (s t : List (List Int)) (a b : Nat) : Int := gS g s t a + sumI ((List.range b).map (gF g s t a))
theorem gT_zero (g : Gm) (s t : List (List Int)) (a : Nat) : gT g s t a 0 = gS g s t a := by simp [gT, sumI]
theorem gT_succ (g : Gm) (s t : List (List Int)) (a b : Nat) : gT g s t a (b + 1) = gT g s t a b + gF g s t a b := by rw [gT, sumI_rsucc, gT, Int.add_assoc]
theorem gT_all (g : Gm) (s t : List (List Int)) (a : Nat) : gT g s t a g.w.length = gS g s t (a + 1) := by rw [gT, gS, gS, sumI_rsucc]
theorem gT_abs {g : Gm} {s t : List (List Int)} (hg : isGameB g = true) (hs : partsOK g s 0) (ht : partsOK g t 1) {a b : Nat} (ha : a < g.w.length) (hb : b ≤ g.w.length) : -30000000000000 ≤ gT g s t a b ∧ gT g s t a b ≤ 30000000000000 := by
  obtain ⟨p1, p2, p3, p4, p5⟩ := isGameB_parts hg
  have h1 := gS_abs hg hs ht (n := a) (by omega)
  have h2 := gR_abs hg hs ht ha hb
  unfold gT gS
  omega
set_option maxRecDepth 20000 in
theorem impl_gameNumber_ok {g : Gm} {s t : Int × List (List Int)} (hg : isGameB g = true) (hs : partsOK g s.2 0) (ht : partsOK g t.2 1) : Pure Try.prog 92 [gameT g, stratT s, stratT t] (.i (gnum g s.2 t.2)) := by
  obtain ⟨p1, p2, p3, p4, p5⟩ := isGameB_parts hg
  obtain ⟨t1, t2, t3, t4⟩ := isTreeB_spec p1
  obtain ⟨u1, u2, u3, u4, u5, u6, u7⟩ := game_unit hg
  refine fun_impl_gameNumber (by simp) ?_
  simp -implicitDefEqProofs only [go_sem, evR, ints, rows, rat, rats, c_impl_gameNumber, gameT, stratT, nodes]
  refine CallW.res (newEv_t g s t hg) [] rfl Try.call136 ?_ (.inl rfl) ?_
  · simp -implicitDefEqProofs only [agR, Nat.reduceLeDiff, Nat.reduceSub, vaR, go_sem, ints, rows, rat, rats, ratsO, rtR, intsO, rowsO]
  simp -implicitDefEqProofs only [clR, Nat.reduceLeDiff, go_sem, evR, rat, evO, intsO, nodes, rows]
  refine CallW.pure (dep_t (impl_depthFrom_ok t2 (by omega) g.nd.length 0 (by omega) (by omega) (by omega))) [] rfl Try.call125 ?_ (by first | trivial | simp [T.noSh, T.noShL, rat]) rfl ?_
  · simp -implicitDefEqProofs only [agR, Nat.reduceLeDiff, Nat.reduceSub, vaR, go_sem, ints, rows, rat, rats, ratsO, rtR, intsO, rowsO]
  simp -implicitDefEqProofs only [go_sem, evR, ints, rows, rat, rats]
  rw [u2]
  refine SemC.loopR (σ := Nat) (fun a => St.of [(7, .own 17), (8, .t (.i (dpt g))), (9, .t (.i (gS g s.2 t.2 a))), (22, .t (rows g.w)), (23, .t (.i g.w.length)), (24, .t (.i a))] [(17, evO g s.2 t.2)]) (fun a => a ≤ g.w.length) (fun a => g.w.length - a) 0 (Weak.of _ _ [some 17] (by simp) (by simp) ?_ ?_) (by omega) fun a ha R hn hr he => ?_
  · simp -implicitDefEqProofs only [ints, rows, Nat.reduceBEq, wkR, Nat.reduceEqDiff, ↓reduceIte, wrR, gS, List.range_zero, List.map_nil, sumI]
  · exact ⟨⟨_, rfl, .refl _⟩, rfl, trivial⟩
  · rcases Nat.lt_or_ge a g.w.length with h9 | h9
    · obtain ⟨r, hr0⟩ : ∃ r, g.w[a]? = some r := ⟨_, List.getElem?_eq_getElem h9⟩
      have hrl : r.length = g.w.length := ((matK_iff.1 p3).2 r (List.mem_of_getElem? hr0)).1
      simp -implicitDefEqProofs only [go_sem, evR, ints, rows, rat, rats, evO, nodes, intsO, hr0, decide_eq_true (show (a : Int) < (g.w.length : Int) by omega)]
      refine ⟨by omega, by omega, by omega, ?_⟩
      refine SemC.loopR (σ := Nat) (fun b => St.of [(7, .own 17), (8, .t (.i (dpt g))), (9, .t (.i (gT g s.2 t.2 a b))), (10, .t (.i a)), (22, .t (rows g.w)), (23, .t (.i g.w.length)), (24, .t (.i a)), (29, .t (ints r)), (30, .t (.i r.length)), (31, .t (.i b))] [(17, evO g s.2 t.2)]) (fun b => b ≤ g.w.length) (fun b => g.w.length - b) 0 (Weak.of _ _ [some 17] (by simp) (by simp) ?_ ?_) (by omega) fun b hb R2 hn2 hr2 he2 => ?_
      · simp -implicitDefEqProofs only [ints, rows, Nat.reduceBEq, wkR, Nat.reduceEqDiff, ↓reduceIte, wrR, gT_zero]
      · exact ⟨⟨_, rfl, .refl _⟩, rfl, trivial⟩
      · rcases Nat.lt_or_ge b g.w.length with h8 | h8
        · obtain ⟨r', y, hr1, hy, hy0, hy9⟩ := game_w hg h9 h8
          rw [hr0, Option.some.injEq] at hr1
          subst hr1
          have hgs := gT_succ g s.2 t.2 a b
          have hgf := gF_abs hg hs ht h9 h8
          have k1 := gT_abs hg hs ht h9 (b := b) (by omega)
          have k2 := gT_abs hg hs ht h9 (b := b + 1) (by omega)
          have hF : gF g s.2 t.2 a b = y * val g s.2 t.2 g.nd.length 0 a b (dpt g) := by
            unfold gF; simp only [List.getD_eq_getElem?_getD, hr0, Option.getD_some, hy]
          simp -implicitDefEqProofs only [go_sem, evR, ints, rows, rat, rats, evO, nodes, intsO, hy, decide_eq_true (show (b : Int) < (r.length : Int) by omega)]
          refine ⟨by omega, by omega, by omega, fun h5 => ?_, fun h5 => ?_⟩
          · have hcall := value_t (impl_value_ok hg hs ht h9 h8 g.nd.length 0 (dpt g) (by omega) (by omega) (by omega) u3)
            refine CallW.pure hcall [17] rfl Try.call137 ?_ trivial rfl ?_
            · simp -implicitDefEqProofs only [agR, Nat.reduceLeDiff, Nat.reduceSub, vaR, go_sem, ints, rows, rat, rats, ratsO, rtR, intsO, rowsO, T.toShL.eq_1, T.toShL.eq_2]
            simp -implicitDefEqProofs only [go_sem, evR, ints, rows, rat, rats]
            refine hn2 _ (b + 1) (Weak.of _ _ [some 17] (by simp) (by simp) ?_ ?_) (by omega) (by omega)
            · simp -implicitDefEqProofs only [ints, rows, Nat.reduceBEq, wkR, Nat.reduceEqDiff, ↓reduceIte, wrR, next64 h8 (by omega), ← hF, wrap64 (n := gF g s.2 t.2 a b) (by omega) (by omega), ← hgs, wrap64 (n := gT g s.2 t.2 a (b + 1)) (by omega) (by omega)]
            · exact ⟨⟨_, rfl, .refl _⟩, rfl, trivial⟩
          · have hy0 : y = 0 := by have : ¬ y > 0 := by simpa using h5
                                   omega
            rw [hF, hy0, Int.zero_mul, Int.add_zero] at hgs
            refine hn2 _ (b + 1) (Weak.of _ _ [some 17] (by simp) (by simp) ?_ ?_) (by omega) (by omega)
            · simp -implicitDefEqProofs only [ints, rows, Nat.reduceBEq, wkR, Nat.reduceEqDiff, ↓reduceIte, wrR, next64 h8 (by omega), hgs]
            · exact ⟨⟨_, rfl, .refl _⟩, rfl, trivial⟩
        · simp -implicitDefEqProofs only [go_sem, evR, ints, rows, rat, rats, evO, nodes, intsO, decide_eq_false (show ¬ (b : Int) < (r.length : Int) by omega)]
          refine he2 _ _ ?_
          simp -implicitDefEqProofs only [go_sem, evR, ints, rows, rat, rats]
          refine hn _ (a + 1) (Weak.of _ _ [some 17] (by simp) (by simp) ?_ ?_) (by omega) (by omega)
          · simp -implicitDefEqProofs only [ints, rows, Nat.reduceBEq, wkR, Nat.reduceEqDiff, ↓reduceIte, wrR, next64 h9 (by omega), ← gT_all, show b = g.w.length by omega]
          · exact ⟨⟨_, rfl, .refl _⟩, rfl, trivial⟩
    · simp -implicitDefEqProofs only [go_sem, evR, ints, rows, rat, rats, evO, nodes, intsO, decide_eq_false (show ¬ (a : Int) < (g.w.length : Int) by omega)]
      refine he _ _ ?_
      simp -implicitDefEqProofs only [go_sem, evR, ints, rows, rat, rats]
      rw [show a = g.w.length by omega, gnum_eq]; rfl

set_option maxRecDepth 20000 in
theorem spec_l23Choice_ok {g : Gm} {s t : Int × List (List Int)} (hg : isGameB g = true) (hs : partsOK g s.2 0) (ht : partsOK g t.2 1) {i a b : Nat} (hi : i < g.nd.length) (ha : a < g.w.length) (hb : b < g.w.length) (h2 : (g.nd.getD i nd0).p ≠ 2) :
    Pure Try.prog 161 [gameT g, stratT s, stratT t, .i i, .i a, .i b] (ints (chP g s.2 t.2 i a b)) := by
  obtain ⟨p1, p2, p3, p4, p5⟩ := isGameB_parts hg
  obtain ⟨t1, t2, t3, t4⟩ := isTreeB_spec p1
  obtain ⟨x, hx⟩ : ∃ x, g.nd[i]? = some x := ⟨_, List.getElem?_eq_getElem hi⟩
  have hxd : g.nd.getD i nd0 = x := by rw [List.getD_eq_getElem?_getD, hx]; rfl
  obtain ⟨⟨r1, r2⟩, _⟩ := ndOK_fields (t2 _ _ hx)
  rw [hxd] at h2
  refine fun_spec_l23Choice (by simp) ?_
  have hcase : x.p = 0 ∨ x.p = 1 := by omega
  rcases hcase with h0 | h0
  · have hpd : (g.nd.getD i nd0).p = 0 := by rw [hxd]; exact h0
    have hrow := partsOK_row t2 (by decide) hs hi ha hpd
    have hrl := (List.getElem?_eq_some_iff.1 hrow).1
    rw [chP, if_pos hpd]
    simp -implicitDefEqProofs only [go_sem, evR, ints, rows, rat, rats, c_spec_l23Choice, gameT, stratT, nodes, nd_get0 hx, h0, show ((0 : Int) == 0) = true from rfl]
    refine ⟨by omega, by rw [nd_len]; omega, by rw [nd_len]; omega, ?_⟩
    refine CallV.pure (l23Set_t hg hi hpd ha) [] rfl Try.call155 (fun e R' hR => ?_) (by first | trivial | simp [T.noSh, T.noShL, rat]) (fun _ => rfl) ?_
    · simp -implicitDefEqProofs only [agR, Nat.reduceLeDiff, Nat.reduceSub, vaR, go_sem, ints, rows, rat, rats, ratsO, rtR, intsO, rowsO]
    simp -implicitDefEqProofs only [go_sem, evR, ints, rows, rat, rats, hrow]
    omega
  · have hpd : (g.nd.getD i nd0).p = 1 := by rw [hxd]; exact h0
    have hrow := partsOK_row t2 (by decide) ht hi hb hpd
    have hrl := (List.getElem?_eq_some_iff.1 hrow).1
    rw [chP, if_neg (by omega)]
    simp -implicitDefEqProofs only [go_sem, evR, ints, rows, rat, rats, c_spec_l23Choice, gameT, stratT, nodes, nd_get0 hx, h0, show ((1 : Int) == 0) = false from rfl]
    refine ⟨by omega, by rw [nd_len]; omega, by rw [nd_len]; omega, ?_⟩
    refine CallV.pure (l23Set_t hg hi hpd hb) [] rfl Try.call155 (fun e R' hR => ?_) (by first | trivial | simp [T.noSh, T.noShL, rat]) (fun _ => rfl) ?_
    · simp -implicitDefEqProofs only [agR, Nat.reduceLeDiff, Nat.reduceSub, vaR, go_sem, ints, rows, rat, rats, ratsO, rtR, intsO, rowsO]
    simp -implicitDefEqProofs only [go_sem, evR, ints, rows, rat, rats, hrow]
    omega
theorem choice_t {g : Gm} {s t : Int × List (List Int)} (hg : isGameB g = true) (hs : partsOK g s.2 0) (ht : partsOK g t.2 1) {i a b : Nat} (hi : i < g.nd.length) (ha : a < g.w.length) (hb : b < g.w.length) (h2 : (g.nd.getD i nd0).p ≠ 2) :
    Pure Try.prog 161 [.agg [.sh 5 (chunk nodeC g.nd), .sh 1 (g.w.map ints), .sh 1 (g.v.map ints)], .agg [.i s.1, .sh 1 (s.2.map ints)], .agg [.i t.1, .sh 1 (t.2.map ints)], .i i, .i a, .i b] (ints (chP g s.2 t.2 i a b)) := spec_l23Choice_ok hg hs ht hi ha hb h2
theorem l21Payoff_t {g : Gm} (hg : isGameB g = true) (i a b : Nat) (hi : i < g.nd.length) (ha : a < g.w.length) (hb : b < g.w.length) : Pure Try.prog 154 [.agg [.sh 5 (chunk nodeC g.nd), .sh 1 (g.w.map ints), .sh 1 (g.v.map ints)], .i i, .i a, .i b] (.i (pay g i a b)) := spec_l21Payoff_ok g hg i a b hi ha hb
theorem sval_t {g : Gm} {s t : Int × List (List Int)} {i a b p r : Int} (h : Pure Try.prog 135 [gameT g, stratT s, stratT t, .i i, .i a, .i b, .i p] (.i r)) :
    Pure Try.prog 135 [.agg [.sh 5 (chunk nodeC g.nd), .sh 1 (g.w.map ints), .sh 1 (g.v.map ints)], .agg [.i s.1, .sh 1 (s.2.map ints)], .agg [.i t.1, .sh 1 (t.2.map ints)], .i i, .i a, .i b, .i p] (.i r) := h
set_option maxRecDepth 20000 in
theorem spec_l23Value_ok {g : Gm} {s t : Int × List (List Int)} (hg : isGameB g = true) (hs : partsOK g s.2 0) (ht : partsOK g t.2 1) {a b : Nat} (ha : a < g.w.length) (hb : b < g.w.length) : ∀ (f i p : Nat), g.nd.length ≤ i + f → i < g.nd.length → dep g.nd f i ≤ p → p ≤ 5 →
    Pure Try.prog 135 [gameT g, stratT s, stratT t, .i i, .i a, .i b, .i p] (.i (val g s.2 t.2 f i a b p)) := by
  obtain ⟨p1, p2, p3, p4, p5⟩ := isGameB_parts hg
  obtain ⟨t1, t2, t3, t4⟩ := isTreeB_spec p1
  have hpay := payOK_of t2
  intro f
  induction f with
  | zero => intro i p h1 h2; omega
  | succ f ih =>
    intro i p hf hi hdp hp5
    obtain ⟨x, hx⟩ : ∃ x, g.nd[i]? = some x := ⟨_, List.getElem?_eq_getElem hi⟩
    have hxd : g.nd.getD i nd0 = x := by rw [List.getD_eq_getElem?_getD, hx]; rfl
    have hxl := (ndOK_fields (t2 _ _ hx)).2.2.2.2.2
    have hpw := pw_le5 hp5
    have hV2 : x.p = 2 → val g s.2 t.2 (f + 1) i a b p = pay g i a b * pw p := fun h => by rw [val]; (try simp only []); rw [if_pos (by rw [hxd]; exact h)]
    have hV1 : x.p ≠ 2 → ∀ n, x.ch.length ≤ n → valK g s.2 t.2 f a b (p - 1) (chP g s.2 t.2 i a b) x.ch n = val g s.2 t.2 (f + 1) i a b p := fun h n hn => by
      have := valK_all (g := g) (s := s.2) (t := t.2) (f := f) (i := i) (a := a) (b := b) (p := p) (n := n) (by rw [hxd]; exact h) (by rw [hxd]; exact hn)
      rw [hxd] at this; exact this
    generalize val g s.2 t.2 (f + 1) i a b p = V' at hV2 hV1 ⊢
    refine fun_spec_l23Value (by simp) ?_
    simp -implicitDefEqProofs only [go_sem, evR, ints, rows, rat, rats, c_spec_l23Value, gameT, stratT, nodes, nd_at hx]
    refine ⟨by omega, by rw [nd_len]; omega, by rw [nd_len]; omega, ?_⟩
    refine ⟨fun h2 => ?_, fun h2 => ?_⟩
    · have h2 : x.p = 2 := by simpa using h2
      rw [hV2 h2]
      refine CallW.pure (l21Payoff_t hg i a b hi ha hb) [] rfl Try.call154 ?_ (by first | trivial | simp [T.noSh, T.noShL, rat]) rfl ?_
      · simp -implicitDefEqProofs only [agR, Nat.reduceLeDiff, Nat.reduceSub, vaR, go_sem, ints, rows, rat, rats, ratsO, rtR, intsO, rowsO]
      simp -implicitDefEqProofs only [go_sem, evR, ints, rows, rat, rats]
      refine CallW.pure (spec_l23Power_ok p (by omega)) [] rfl Try.call119 ?_ (by first | trivial | simp [T.noSh, T.noShL, rat]) rfl ?_
      · simp -implicitDefEqProofs only [agR, Nat.reduceLeDiff, Nat.reduceSub, vaR, go_sem, ints, rows, rat, rats, ratsO, rtR, intsO, rowsO]
      simp -implicitDefEqProofs only [go_sem, evR, ints, rows, rat, rats]
      have q1 := hpay i a b
      have m1 := Int.mul_le_mul_of_nonneg_right q1.2 (show 0 ≤ pw p by omega)
      have m2 := Int.mul_le_mul_of_nonneg_right q1.1 (show 0 ≤ pw p by omega)
      rw [wrap64 (n := pay g i a b * pw p) (by omega) (by omega)]
    · have h2 : x.p ≠ 2 := by simpa using h2
      have hp2 : (g.nd.getD i nd0).p ≠ 2 := by rw [hxd]; exact h2
      obtain ⟨d1, d2⟩ := dep_child (f := f) hp2
      rw [hxd] at d2
      have hch := ndOK_child (t2 _ _ hx)
      obtain ⟨c1, c2, c3⟩ := chP_spec t2 hs ht hi ha hb hp2
      rw [hxd] at c1
      obtain ⟨p', rfl⟩ : ∃ p', p = p' + 1 := ⟨p - 1, by omega⟩
      have hpw' := pw_le5 (show p' ≤ 5 by omega)
      have hcond : ∀ c ∈ x.ch, 0 ≤ c ∧ c.toNat < g.nd.length ∧ dep g.nd f c.toNat ≤ p' := fun c hc => by
        have h1 := hch c hc
        have h3 := d2 c hc
        omega
      refine CallW.res (choice_t hg hs ht hi ha hb hp2) [] rfl Try.call161 ?_ (.inl rfl) ?_
      · simp -implicitDefEqProofs only [agR, Nat.reduceLeDiff, Nat.reduceSub, vaR, go_sem, ints, rows, rat, rats, ratsO, rtR, intsO, rowsO]
      simp -implicitDefEqProofs only [clR, Nat.reduceLeDiff, go_sem, evR, rat, ints]
      rw [Nat.add_sub_cancel] at hV1
      generalize chP g s.2 t.2 i a b = q at hV1 c1 c2 c3 ⊢
      have hKA := valK_abs t2 hs ht ha hb (f := f) c2 hcond
      refine SemC.loopR (σ := Nat) (fun k => St.of [(3, .t (.i i)), (4, .t (.i a)), (5, .t (.i b)), (6, .t (.i (p' + 1 : Nat))), (7, .own 7), (8, .own 8), (9, .own 9), (15, .own 15), (16, .t (ints q)), (17, .t (.i (valK g s.2 t.2 f a b p' q x.ch k))), (18, .t (.i k))] [(7, .box [nodes g.nd, rows g.w, rows g.v]), (8, .box [.i s.1, rows s.2]), (9, .box [.i t.1, rows t.2]), (15, .box [.i x.p, .i x.a, .i x.b, .i x.f, ints x.ch])]) (fun k => k ≤ q.length) (fun k => q.length - k) 0 (Weak.of _ _ [some 7, some 8, some 9, some 15] (by simp) (by simp) ?_ ?_) (by omega) fun k hk R hn hr he => ?_
      · simp -implicitDefEqProofs only [ints, rows, Nat.reduceBEq, wkR, Nat.reduceEqDiff, ↓reduceIte, wrR, nodes, show valK g s.2 t.2 f a b p' q x.ch 0 = 0 from rfl]
      · exact ⟨⟨_, rfl, .refl _⟩, rfl, ⟨_, rfl, .refl _⟩, rfl, ⟨_, rfl, .refl _⟩, rfl, ⟨_, rfl, .refl _⟩, rfl, trivial⟩
      · rcases Nat.lt_or_ge k q.length with h9 | h9
        · obtain ⟨y, hy⟩ : ∃ y, q[k]? = some y := ⟨_, List.getElem?_eq_getElem h9⟩
          obtain ⟨c, hc⟩ : ∃ c, x.ch[k]? = some c := ⟨_, List.getElem?_eq_getElem (by omega)⟩
          have hyb := c2 y (List.mem_of_getElem? hy)
          have hcb := hcond c (List.mem_of_getElem? hc)
          have hcb1 := hch c (List.mem_of_getElem? hc)
          have hsu := valK_succ (g := g) (s := s.2) (t := t.2) (f := f) (a := a) (b := b) (p := p') hy hc
          have k1 := hKA k (by omega) (by omega)
          have k2 := hKA (k + 1) (by omega) (by omega)
          have k3 : (k : Int) * (6000 * pw p') ≤ 4 * 4665600000000 := Int.mul_le_mul (by omega) (by omega) (by omega) (by decide)
          have k4 : ((k + 1 : Nat) : Int) * (6000 * pw p') ≤ 4 * 4665600000000 := Int.mul_le_mul (by omega) (by omega) (by omega) (by decide)
          have hcall := sval_t (ih c.toNat p' (by omega) hcb.2.1 hcb.2.2 (by omega))
          rw [show ((c.toNat : Nat) : Int) = c by omega] at hcall
          have hva := val_abs t2 hs ht ha hb f c.toNat p' hcb.2.1 hcb.2.2
          obtain ⟨m1, m2⟩ := mul_abs hyb.1 hva.1 hva.2
          have m3 : 100 * pw p' * y ≤ 77760000000 * 60 := Int.mul_le_mul (by omega) hyb.2 hyb.1 (by decide)
          simp -implicitDefEqProofs only [go_sem, evR, ints, rows, rat, rats, nodes, hy, hc, decide_eq_true (show (k : Int) < (x.ch.length : Int) by omega), wrap64 (n := (p' : Int)) (by omega) (by omega), show ((p' + 1 : Nat) : Int) - 1 = (p' : Int) by omega]
          refine ⟨by omega, by omega, by omega, by omega, by omega, by omega, ?_⟩
          refine CallV.pure hcall [] rfl Try.call135 (fun e R' hR => ?_) (by first | trivial | simp [T.noSh, T.noShL, rat]) (fun _ => rfl) ?_
          · simp -implicitDefEqProofs only [agR, Nat.reduceLeDiff, Nat.reduceSub, vaR, go_sem, ints, rows, rat, rats, ratsO, rtR, intsO, rowsO]
          simp -implicitDefEqProofs only [go_sem, evR, ints, rows, rat, rats]
          refine hn _ (k + 1) (Weak.of _ _ [some 7, some 8, some 9, some 15] (by simp) (by simp) ?_ ?_) (by omega) (by omega)
          · simp -implicitDefEqProofs only [ints, rows, Nat.reduceBEq, wkR, Nat.reduceEqDiff, ↓reduceIte, wrR, nodes, next64 h9 (by omega), wrap64 (n := y * val g s.2 t.2 f c.toNat a b p') (by omega) (by omega), ← hsu, wrap64 (n := valK g s.2 t.2 f a b p' q x.ch (k + 1)) (by omega) (by omega)]
          · exact ⟨⟨_, rfl, .refl _⟩, rfl, ⟨_, rfl, .refl _⟩, rfl, ⟨_, rfl, .refl _⟩, rfl, ⟨_, rfl, .refl _⟩, rfl, trivial⟩
        · simp -implicitDefEqProofs only [go_sem, evR, ints, rows, rat, rats, nodes, decide_eq_false (show ¬ (k : Int) < (x.ch.length : Int) by omega)]
          refine he _ _ ?_
          simp -implicitDefEqProofs only [go_sem, evR, ints, rows, rat, rats]
          rw [hV1 h2 k (by omega)]

set_option maxRecDepth 20000 in
theorem spec_l23Number_ok {g : Gm} {s t : Int × List (List Int)} (hg : isGameB g = true) (hs : partsOK g s.2 0) (ht : partsOK g t.2 1) : Pure Try.prog 91 [gameT g, stratT s, stratT t] (.i (gnum g s.2 t.2)) := by
  obtain ⟨p1, p2, p3, p4, p5⟩ := isGameB_parts hg
  obtain ⟨t1, t2, t3, t4⟩ := isTreeB_spec p1
  obtain ⟨u1, u2, u3, u4, u5, u6, u7⟩ := game_unit hg
  refine fun_spec_l23Number (by simp) ?_
  simp -implicitDefEqProofs only [go_sem, evR, ints, rows, rat, rats, c_spec_l23Number, gameT, stratT, nodes]
  refine CallW.pure (dep_t (spec_l20Depth_ok t2 (by omega) g.nd.length 0 (by omega) (by omega) (by omega))) [] rfl Try.call117 ?_ (by first | trivial | simp [T.noSh, T.noShL, rat]) rfl ?_
  · simp -implicitDefEqProofs only [agR, Nat.reduceLeDiff, Nat.reduceSub, vaR, go_sem, ints, rows, rat, rats, ratsO, rtR, intsO, rowsO]
  simp -implicitDefEqProofs only [go_sem, evR, ints, rows, rat, rats]
  rw [u2]
  refine SemC.loopR (σ := Nat) (fun a => St.of [(3, .own 3), (4, .own 4), (5, .own 5), (7, .t (.i (dpt g))), (8, .t (.i (gS g s.2 t.2 a))), (9, .t (.i a))] [(3, .box [nodes g.nd, rows g.w, rows g.v]), (4, .box [.i s.1, rows s.2]), (5, .box [.i t.1, rows t.2])]) (fun a => a ≤ g.w.length) (fun a => g.w.length - a) 0 (Weak.of _ _ [some 3, some 4, some 5] (by simp) (by simp) ?_ ?_) (by omega) fun a ha R hn hr he => ?_
  · simp -implicitDefEqProofs only [ints, rows, Nat.reduceBEq, wkR, Nat.reduceEqDiff, ↓reduceIte, wrR, nodes, gS, List.range_zero, List.map_nil, sumI]
  · exact ⟨⟨_, rfl, .refl _⟩, rfl, ⟨_, rfl, .refl _⟩, rfl, ⟨_, rfl, .refl _⟩, rfl, trivial⟩
  · rcases Nat.lt_or_ge a g.w.length with h9 | h9
    · obtain ⟨r, hr0⟩ : ∃ r, g.w[a]? = some r := ⟨_, List.getElem?_eq_getElem h9⟩
      have hrl : r.length = g.w.length := ((matK_iff.1 p3).2 r (List.mem_of_getElem? hr0)).1
      simp -implicitDefEqProofs only [go_sem, evR, ints, rows, rat, rats, nodes, hr0, decide_eq_true (show (a : Int) < (g.w.length : Int) by omega)]
      refine SemC.loopR (σ := Nat) (fun b => St.of [(3, .own 3), (4, .own 4), (5, .own 5), (7, .t (.i (dpt g))), (8, .t (.i (gT g s.2 t.2 a b))), (9, .t (.i a)), (10, .t (.i b))] [(3, .box [nodes g.nd, rows g.w, rows g.v]), (4, .box [.i s.1, rows s.2]), (5, .box [.i t.1, rows t.2])]) (fun b => b ≤ g.w.length) (fun b => g.w.length - b) 0 (Weak.of _ _ [some 3, some 4, some 5] (by simp) (by simp) ?_ ?_) (by omega) fun b hb R2 hn2 hr2 he2 => ?_
      · simp -implicitDefEqProofs only [ints, rows, Nat.reduceBEq, wkR, Nat.reduceEqDiff, ↓reduceIte, wrR, nodes, gT_zero]
      · exact ⟨⟨_, rfl, .refl _⟩, rfl, ⟨_, rfl, .refl _⟩, rfl, ⟨_, rfl, .refl _⟩, rfl, trivial⟩
      · rcases Nat.lt_or_ge b g.w.length with h8 | h8
        · obtain ⟨r', y, hr1, hy, hy0, hy9⟩ := game_w hg h9 h8
          rw [hr0, Option.some.injEq] at hr1
          subst hr1
          have hgs := gT_succ g s.2 t.2 a b
          have hgf := gF_abs hg hs ht h9 h8
          have k1 := gT_abs hg hs ht h9 (b := b) (by omega)
          have k2 := gT_abs hg hs ht h9 (b := b + 1) (by omega)
          have hF : gF g s.2 t.2 a b = y * val g s.2 t.2 g.nd.length 0 a b (dpt g) := by
            unfold gF; simp only [List.getD_eq_getElem?_getD, hr0, Option.getD_some, hy]
          have hcall := sval_t (spec_l23Value_ok (s := s) (t := t) hg hs ht h9 h8 g.nd.length 0 (dpt g) (by omega) (by omega) (by omega) u3)
          simp -implicitDefEqProofs only [go_sem, evR, ints, rows, rat, rats, nodes, hr0, hy, decide_eq_true (show (b : Int) < (g.w.length : Int) by omega)]
          refine ⟨by omega, by omega, by omega, by omega, by omega, by omega, fun h5 => ⟨by omega, by omega, by omega, by omega, by omega, by omega, ?_⟩, fun h5 => ?_⟩
          · refine CallV.pure hcall [] rfl Try.call135 (fun e R' hR => ?_) (by first | trivial | simp [T.noSh, T.noShL, rat]) (fun _ => rfl) ?_
            · simp -implicitDefEqProofs only [agR, Nat.reduceLeDiff, Nat.reduceSub, vaR, go_sem, ints, rows, rat, rats, ratsO, rtR, intsO, rowsO]
            simp -implicitDefEqProofs only [go_sem, evR, ints, rows, rat, rats]
            refine hn2 _ (b + 1) (Weak.of _ _ [some 3, some 4, some 5] (by simp) (by simp) ?_ ?_) (by omega) (by omega)
            · simp -implicitDefEqProofs only [ints, rows, Nat.reduceBEq, wkR, Nat.reduceEqDiff, ↓reduceIte, wrR, nodes, next64 h8 (by omega), ← hF, wrap64 (n := gF g s.2 t.2 a b) (by omega) (by omega), ← hgs, wrap64 (n := gT g s.2 t.2 a (b + 1)) (by omega) (by omega)]
            · exact ⟨⟨_, rfl, .refl _⟩, rfl, ⟨_, rfl, .refl _⟩, rfl, ⟨_, rfl, .refl _⟩, rfl, trivial⟩
          · have hy0 : y = 0 := by have : ¬ y > 0 := by simpa using h5
                                   omega
            rw [hF, hy0, Int.zero_mul, Int.add_zero] at hgs
            refine hn2 _ (b + 1) (Weak.of _ _ [some 3, some 4, some 5] (by simp) (by simp) ?_ ?_) (by omega) (by omega)
            · simp -implicitDefEqProofs only [ints, rows, Nat.reduceBEq, wkR, Nat.reduceEqDiff, ↓reduceIte, wrR, nodes, next64 h8 (by omega), hgs]
            · exact ⟨⟨_, rfl, .refl _⟩, rfl, ⟨_, rfl, .refl _⟩, rfl, ⟨_, rfl, .refl _⟩, rfl, trivial⟩
        · simp -implicitDefEqProofs only [go_sem, evR, ints, rows, rat, rats, nodes, decide_eq_false (show ¬ (b : Int) < (g.w.length : Int) by omega)]
          refine he2 _ _ ?_
          simp -implicitDefEqProofs only [go_sem, evR, ints, rows, rat, rats]
          refine hn _ (a + 1) (Weak.of _ _ [some 3, some 4, some 5] (by simp) (by simp) ?_ ?_) (by omega) (by omega)
          · simp -implicitDefEqProofs only [ints, rows, Nat.reduceBEq, wkR, Nat.reduceEqDiff, ↓reduceIte, wrR, nodes, next64 h9 (by omega), ← gT_all, show b = g.w.length by omega]
          · exact ⟨⟨_, rfl, .refl _⟩, rfl, ⟨_, rfl, .refl _⟩, rfl, ⟨_, rfl, .refl _⟩, rfl, trivial⟩
    · simp -implicitDefEqProofs only [go_sem, evR, ints, rows, rat, rats, nodes, decide_eq_false (show ¬ (a : Int) < (g.w.length : Int) by omega)]
      refine he _ _ ?_
      simp -implicitDefEqProofs only [go_sem, evR, ints, rows, rat, rats]
      rw [show a = g.w.length by omega, gnum_eq]; rfl
def gnR (g : Gm) (s t : Int × List (List Int)) : Int × Int × Int := if pairG g s t = true then (bestN g t - gnum g s.2 t.2, bestN g s + gnum g s.2 t.2, 0) else (0, 0, 1)
theorem pair_parts {g : Gm} {s t : Int × List (List Int)} (h : pairG g s t = true) : isGameB g = true ∧ partsOK g s.2 0 ∧ partsOK g t.2 1 := by
  obtain ⟨h1, h2, h3, h4, h5⟩ := pairG_iff.1 h
  rw [h2] at h4; rw [h3] at h5
  exact ⟨h1, partsOK_of h4, partsOK_of h5⟩
set_option maxRecDepth 20000 in
theorem spec_GainsOf_ok (g : Gm) (s t : Int × List (List Int)) (hg : gameL g) (hs : rowsL s.2) (ht : rowsL t.2) : Pure Try.prog 44 [gameT g, stratT s, stratT t] (tr3 (gnR g s t)) := by
  refine fun_spec_GainsOf (by simp) ?_
  have h1 := pair_t (spec_l23Pair_ok g s t hg hs ht)
  simp -implicitDefEqProofs only [go_sem, evR, ints, rows, rat, rats, c_spec_GainsOf, gameT, stratT, nodes]
  cases hb : pairG g s t <;> rw [hb] at h1
  · refine CallW.pure h1 [] rfl Try.call80 ?_ (by first | trivial | simp [T.noSh, T.noShL, rat]) rfl ?_
    · simp -implicitDefEqProofs only [agR, Nat.reduceLeDiff, Nat.reduceSub, vaR, go_sem, ints, rows, rat, rats, ratsO, rtR, intsO, rowsO]
    simp -implicitDefEqProofs only [go_sem, evR, ints, rows, rat, rats]
    rw [gnR, hb]; rfl
  · obtain ⟨q1, q2, q3⟩ := pair_parts hb
    obtain ⟨b1, b2, _⟩ := pairG_parts hb
    have b1 := bestN_abs b1
    have b2 := bestN_abs b2
    have b3 := gnum_abs q1 q2 q3
    refine CallW.pure h1 [] rfl Try.call80 ?_ (by first | trivial | simp [T.noSh, T.noShL, rat]) rfl ?_
    · simp -implicitDefEqProofs only [agR, Nat.reduceLeDiff, Nat.reduceSub, vaR, go_sem, ints, rows, rat, rats, ratsO, rtR, intsO, rowsO]
    simp -implicitDefEqProofs only [go_sem, evR, ints, rows, rat, rats]
    refine CallW.pure (vb_t (spec_l24Both_ok g s t hb)) [] rfl Try.call81 ?_ (by first | trivial | simp [T.noSh, T.noShL, rat]) rfl ?_
    · simp -implicitDefEqProofs only [agR, Nat.reduceLeDiff, Nat.reduceSub, vaR, go_sem, ints, rows, rat, rats, ratsO, rtR, intsO, rowsO]
    simp -implicitDefEqProofs only [go_sem, evR, ints, rows, rat, rats]
    refine CallW.pure (vb_t (spec_l23Number_ok (s := s) (t := t) q1 q2 q3)) [] rfl Try.call91 ?_ (by first | trivial | simp [T.noSh, T.noShL, rat]) rfl ?_
    · simp -implicitDefEqProofs only [agR, Nat.reduceLeDiff, Nat.reduceSub, vaR, go_sem, ints, rows, rat, rats, ratsO, rtR, intsO, rowsO]
    simp -implicitDefEqProofs only [go_sem, evR, ints, rows, rat, rats]
    rw [gnR, hb, wrap64 (n := bestN g t - gnum g s.2 t.2) (by omega) (by omega), wrap64 (n := bestN g s + gnum g s.2 t.2) (by omega) (by omega)]; rfl
set_option maxRecDepth 20000 in
theorem impl_GainsOf_ok (g : Gm) (s t : Int × List (List Int)) (hg : gameL g) (hs : rowsL s.2) (ht : rowsL t.2) : Pure Try.prog 45 [gameT g, stratT s, stratT t] (tr3 (gnR g s t)) := by
  refine fun_impl_GainsOf (by simp) ?_
  have h1 := pair_t (impl_arePair_ok g s t hg hs ht)
  simp -implicitDefEqProofs only [go_sem, evR, ints, rows, rat, rats, c_impl_GainsOf, gameT, stratT, nodes]
  cases hb : pairG g s t <;> rw [hb] at h1
  · refine CallW.pure h1 [] rfl Try.call82 ?_ (by first | trivial | simp [T.noSh, T.noShL, rat]) rfl ?_
    · simp -implicitDefEqProofs only [agR, Nat.reduceLeDiff, Nat.reduceSub, vaR, go_sem, ints, rows, rat, rats, ratsO, rtR, intsO, rowsO]
    simp -implicitDefEqProofs only [go_sem, evR, ints, rows, rat, rats]
    rw [gnR, hb]; rfl
  · obtain ⟨q1, q2, q3⟩ := pair_parts hb
    obtain ⟨c1, c2, _⟩ := pairG_parts hb
    have b1 := bestN_abs c1
    have b2 := bestN_abs c2
    have b3 := gnum_abs q1 q2 q3
    refine CallW.pure h1 [] rfl Try.call82 ?_ (by first | trivial | simp [T.noSh, T.noShL, rat]) rfl ?_
    · simp -implicitDefEqProofs only [agR, Nat.reduceLeDiff, Nat.reduceSub, vaR, go_sem, ints, rows, rat, rats, ratsO, rtR, intsO, rowsO]
    simp -implicitDefEqProofs only [go_sem, evR, ints, rows, rat, rats]
    refine CallW.pure (vb_t (impl_gameNumber_ok (s := s) (t := t) q1 q2 q3)) [] rfl Try.call92 ?_ (by first | trivial | simp [T.noSh, T.noShL, rat]) rfl ?_
    · simp -implicitDefEqProofs only [agR, Nat.reduceLeDiff, Nat.reduceSub, vaR, go_sem, ints, rows, rat, rats, ratsO, rtR, intsO, rowsO]
    simp -implicitDefEqProofs only [go_sem, evR, ints, rows, rat, rats]
    refine CallW.res (impl_run c2) [] rfl Try.call76 ?_ (.inl rfl) ?_
    · simp -implicitDefEqProofs only [agR, Nat.reduceLeDiff, Nat.reduceSub, vaR, go_sem, ints, rows, rat, rats, ratsO, rtR, intsO, rowsO]
    simp -implicitDefEqProofs only [clR, Nat.reduceLeDiff, go_sem, evR, rat, runT_s, rowsO]
    refine CallW.res (impl_run c1) [] rfl Try.call76 ?_ (.inl rfl) ?_
    · simp -implicitDefEqProofs only [agR, Nat.reduceLeDiff, Nat.reduceSub, vaR, go_sem, ints, rows, rat, rats, ratsO, rtR, intsO, rowsO]
    simp -implicitDefEqProofs only [clR, Nat.reduceLeDiff, go_sem, evR, rat, runT_s, rowsO]
    rw [gnR, hb, wrap64 (n := bestN g t - gnum g s.2 t.2) (by omega) (by omega), wrap64 (n := bestN g s + gnum g s.2 t.2) (by omega) (by omega)]; rfl
end
end Go.Ab

/- The law FnExactGainsOf, as a contract. -/
set_option linter.unusedSimpArgs false
set_option linter.unusedVariables false
namespace Go.Ab
open Go.Proofs

section
attribute [-go_sem] load1C load1V fldC lenC idxC loadNV nilCheckW
set_option maxRecDepth 20000 in
theorem laws_FnExactGainsOf_ok (g : Gm) (hg : gameL g) (s : Int × List (List Int)) (hs : rowsL s.2) (t : Int × List (List Int)) (ht : rowsL t.2) : Pure Try.prog 10 [gameT g, stratT s, stratT t] (.b true) := by
  refine fun_laws_FnExactGainsOf (by simp) ?_
  simp -implicitDefEqProofs only [go_sem, evR, ints, rows, rat, rats, c_laws_FnExactGainsOf, gameT, stratT, claimT, gameO, stratO, claimO, nodes, nodesO, rowsO, intsO]
  have hc1 := laws_szGame_ok g 1048576 hg (by omega) (by omega)
  (try simp only [gameT, stratT, claimT, gameO, stratO, claimO, nodes, nodesO, rows, rowsO, ints, intsO, tr3] at hc1)
  refine CallW.pure hc1 [] rfl Try.call18 ?_ (by first | trivial | simp [T.noSh, T.noShL, rat]) rfl ?_
  · simp -implicitDefEqProofs only [agR, Nat.reduceLeDiff, Nat.reduceSub, vaR, go_sem, ints, rows, rat, rats, ratsO, rtR, intsO, rowsO]
  simp -implicitDefEqProofs only [go_sem, evR, ints, rows, rat, rats, opR, Nat.reduceBEq, cellsV, noLk, readOK, readA, mergeR_at]
  refine ⟨fun _ => trivial, fun hb0 => ?_⟩
  obtain ⟨hgS, hgb1, hgb2⟩ := budgetG_S (g := g) (left := 1048576) (by omega) (by omega) hb0
  have hg12 := gameS_12 hgS
  have hc2 := laws_szStrategy_ok s (budgetG g 1048576) hs (by omega) (by omega)
  (try simp only [gameT, stratT, claimT, gameO, stratO, claimO, nodes, nodesO, rows, rowsO, ints, intsO, tr3] at hc2)
  refine CallW.pure hc2 [] rfl Try.call19 ?_ (by first | trivial | simp [T.noSh, T.noShL, rat]) rfl ?_
  · simp -implicitDefEqProofs only [agR, Nat.reduceLeDiff, Nat.reduceSub, vaR, go_sem, ints, rows, rat, rats, ratsO, rtR, intsO, rowsO]
  simp -implicitDefEqProofs only [go_sem, evR, ints, rows, rat, rats, opR, Nat.reduceBEq, cellsV, noLk, readOK, readA, mergeR_at]
  refine ⟨fun _ => trivial, fun hb1 => ?_⟩
  obtain ⟨hsS, hsb1, hsb2⟩ := budgetM_S (m := s.2) (left := (budgetG g 1048576)) (by omega) (by omega) hb1
  have hs12 := rowsS_12 hsS
  have hc3 := laws_szStrategy_ok t (budgetMat s.2 (budgetG g 1048576)) ht (by omega) (by omega)
  (try simp only [gameT, stratT, claimT, gameO, stratO, claimO, nodes, nodesO, rows, rowsO, ints, intsO, tr3] at hc3)
  refine CallW.pure hc3 [] rfl Try.call19 ?_ (by first | trivial | simp [T.noSh, T.noShL, rat]) rfl ?_
  · simp -implicitDefEqProofs only [agR, Nat.reduceLeDiff, Nat.reduceSub, vaR, go_sem, ints, rows, rat, rats, ratsO, rtR, intsO, rowsO]
  simp -implicitDefEqProofs only [go_sem, evR, ints, rows, rat, rats, opR, Nat.reduceBEq, cellsV, noLk, readOK, readA, mergeR_at]
  refine ⟨fun _ => trivial, fun hb2 => ?_⟩
  obtain ⟨htS, htb1, htb2⟩ := budgetM_S (m := t.2) (left := (budgetMat s.2 (budgetG g 1048576))) (by omega) (by omega) hb2
  have ht12 := rowsS_12 htS
  have hc4 := laws_toGame_ok g hg12
  (try simp only [gameT, stratT, claimT, gameO, stratO, claimO, nodes, nodesO, rows, rowsO, ints, intsO, tr3] at hc4)
  refine CallC.res hc4 [] rfl Try.call21 (fun e R' hR => ?_) (.inl rfl) ?_
  · simp -implicitDefEqProofs only [agR, Nat.reduceLeDiff, Nat.reduceSub, vaR, go_sem, ints, rows, rat, rats, ratsO, rtR, intsO, rowsO]
  simp -implicitDefEqProofs only [clR, Nat.reduceLeDiff, go_sem, evR, rat, opR, Nat.reduceBEq, cellsV, noLk, readOK, readA, mergeR_at]
  have hc5 := laws_toStrategy_ok s hs12
  (try simp only [gameT, stratT, claimT, gameO, stratO, claimO, nodes, nodesO, rows, rowsO, ints, intsO, tr3] at hc5)
  refine CallC.res hc5 [] rfl Try.call22 (fun e R' hR => ?_) (.inl rfl) ?_
  · simp -implicitDefEqProofs only [agR, Nat.reduceLeDiff, Nat.reduceSub, vaR, go_sem, ints, rows, rat, rats, ratsO, rtR, intsO, rowsO]
  simp -implicitDefEqProofs only [clR, Nat.reduceLeDiff, go_sem, evR, rat, opR, Nat.reduceBEq, cellsV, noLk, readOK, readA, mergeR_at]
  have hc6 := laws_toStrategy_ok t ht12
  (try simp only [gameT, stratT, claimT, gameO, stratO, claimO, nodes, nodesO, rows, rowsO, ints, intsO, tr3] at hc6)
  refine CallC.res hc6 [] rfl Try.call22 (fun e R' hR => ?_) (.inl rfl) ?_
  · simp -implicitDefEqProofs only [agR, Nat.reduceLeDiff, Nat.reduceSub, vaR, go_sem, ints, rows, rat, rats, ratsO, rtR, intsO, rowsO]
  simp -implicitDefEqProofs only [clR, Nat.reduceLeDiff, go_sem, evR, rat, opR, Nat.reduceBEq, cellsV, noLk, readOK, readA, mergeR_at]
  have hc7 := spec_GainsOf_ok g s t (gameS_L hgS) (rowsS_L hsS) (rowsS_L htS)
  (try simp only [gameT, stratT, claimT, gameO, stratO, claimO, nodes, nodesO, rows, rowsO, ints, intsO, tr3] at hc7)
  refine CallV.pure hc7 [34, 36, 38, 35001, 35002] rfl Try.call44 (fun e R' hR => ?_) (by first | trivial | simp [T.noSh, T.noShL, rat]) (fun _ => rfl) ?_
  · have hq34 := (hR 34).resolve_left (by simp -implicitDefEqProofs only [go_sem, evR, ints, rows, rat, rats, not_false_eq_true]); have hq36 := (hR 36).resolve_left (by simp -implicitDefEqProofs only [go_sem, evR, ints, rows, rat, rats, not_false_eq_true]); have hq38 := (hR 38).resolve_left (by simp -implicitDefEqProofs only [go_sem, evR, ints, rows, rat, rats, not_false_eq_true]); have hq35001 := (hR 35001).resolve_left (by simp -implicitDefEqProofs only [go_sem, evR, ints, rows, rat, rats, not_false_eq_true]); have hq35002 := (hR 35002).resolve_left (by simp -implicitDefEqProofs only [go_sem, evR, ints, rows, rat, rats, not_false_eq_true])
    simp -implicitDefEqProofs only [go_sem, evR, ints, rows, rat, rats] at hq34 hq36 hq38 hq35001 hq35002
    simp -implicitDefEqProofs only [agR, Nat.reduceLeDiff, Nat.reduceSub, vaR, go_sem, ints, rows, rat, rats, ratsO, rtR, intsO, rowsO, hq34, hq36, hq38, hq35001, hq35002]
  simp -implicitDefEqProofs only [go_sem, evR, ints, rows, rat, rats, opR, Nat.reduceBEq, cellsV, noLk, readOK, readA, mergeR_at]
  have hc8 := laws_toGame_ok g hg12
  (try simp only [gameT, stratT, claimT, gameO, stratO, claimO, nodes, nodesO, rows, rowsO, ints, intsO, tr3] at hc8)
  refine CallW.res hc8 [] rfl Try.call21 ?_ (.inl rfl) ?_
  · simp -implicitDefEqProofs only [agR, Nat.reduceLeDiff, Nat.reduceSub, vaR, go_sem, ints, rows, rat, rats, ratsO, rtR, intsO, rowsO]
  simp -implicitDefEqProofs only [clR, Nat.reduceLeDiff, go_sem, evR, rat, opR, Nat.reduceBEq, cellsV, noLk, readOK, readA, mergeR_at]
  have hc9 := laws_toStrategy_ok s hs12
  (try simp only [gameT, stratT, claimT, gameO, stratO, claimO, nodes, nodesO, rows, rowsO, ints, intsO, tr3] at hc9)
  refine CallW.res hc9 [] rfl Try.call22 ?_ (.inl rfl) ?_
  · simp -implicitDefEqProofs only [agR, Nat.reduceLeDiff, Nat.reduceSub, vaR, go_sem, ints, rows, rat, rats, ratsO, rtR, intsO, rowsO]
  simp -implicitDefEqProofs only [clR, Nat.reduceLeDiff, go_sem, evR, rat, opR, Nat.reduceBEq, cellsV, noLk, readOK, readA, mergeR_at]
  have hc10 := laws_toStrategy_ok t ht12
  (try simp only [gameT, stratT, claimT, gameO, stratO, claimO, nodes, nodesO, rows, rowsO, ints, intsO, tr3] at hc10)
  refine CallW.res hc10 [] rfl Try.call22 ?_ (.inl rfl) ?_
  · simp -implicitDefEqProofs only [agR, Nat.reduceLeDiff, Nat.reduceSub, vaR, go_sem, ints, rows, rat, rats, ratsO, rtR, intsO, rowsO]
  simp -implicitDefEqProofs only [clR, Nat.reduceLeDiff, go_sem, evR, rat, opR, Nat.reduceBEq, cellsV, noLk, readOK, readA, mergeR_at]
  have hc11 := impl_GainsOf_ok g s t (gameS_L hgS) (rowsS_L hsS) (rowsS_L htS)
  (try simp only [gameT, stratT, claimT, gameO, stratO, claimO, nodes, nodesO, rows, rowsO, ints, intsO, tr3] at hc11)
  refine CallW.pure hc11 [51001, 51002, 51003, 52002, 53002] rfl Try.call45 ?_ (by first | trivial | simp [T.noSh, T.noShL, rat]) rfl ?_
  · simp -implicitDefEqProofs only [agR, Nat.reduceLeDiff, Nat.reduceSub, vaR, go_sem, ints, rows, rat, rats, ratsO, rtR, intsO, rowsO]
  simp -implicitDefEqProofs only [go_sem, evR, ints, rows, rat, rats, opR, Nat.reduceBEq, cellsV, noLk, readOK, readA, mergeR_at]
  have hc12 := laws_toGame_ok g hg12
  (try simp only [gameT, stratT, claimT, gameO, stratO, claimO, nodes, nodesO, rows, rowsO, ints, intsO, tr3] at hc12)
  refine CallC.res hc12 [] rfl Try.call21 (fun e R' hR => ?_) (.inl rfl) ?_
  · simp -implicitDefEqProofs only [agR, Nat.reduceLeDiff, Nat.reduceSub, vaR, go_sem, ints, rows, rat, rats, ratsO, rtR, intsO, rowsO]
  simp -implicitDefEqProofs only [clR, Nat.reduceLeDiff, go_sem, evR, rat, opR, Nat.reduceBEq, cellsV, noLk, readOK, readA, mergeR_at]
  have hc13 := laws_eqGame_ok g g hg12 hg12
  (try simp only [gameT, stratT, claimT, gameO, stratO, claimO, nodes, nodesO, rows, rowsO, ints, intsO, tr3] at hc13)
  refine CallV.pure hc13 [51001, 51002, 51003, 72, 73001, 73002] rfl Try.call24 (fun e R' hR => ?_) (by first | trivial | simp [T.noSh, T.noShL, rat]) (fun _ => rfl) ?_
  · have hq51001 := (hR 51001).resolve_left (by simp -implicitDefEqProofs only [go_sem, evR, ints, rows, rat, rats, not_false_eq_true]); have hq51002 := (hR 51002).resolve_left (by simp -implicitDefEqProofs only [go_sem, evR, ints, rows, rat, rats, not_false_eq_true]); have hq51003 := (hR 51003).resolve_left (by simp -implicitDefEqProofs only [go_sem, evR, ints, rows, rat, rats, not_false_eq_true]); have hq72 := (hR 72).resolve_left (by simp -implicitDefEqProofs only [go_sem, evR, ints, rows, rat, rats, not_false_eq_true]); have hq73001 := (hR 73001).resolve_left (by simp -implicitDefEqProofs only [go_sem, evR, ints, rows, rat, rats, not_false_eq_true]); have hq73002 := (hR 73002).resolve_left (by simp -implicitDefEqProofs only [go_sem, evR, ints, rows, rat, rats, not_false_eq_true])
    simp -implicitDefEqProofs only [go_sem, evR, ints, rows, rat, rats] at hq51001 hq51002 hq51003 hq72 hq73001 hq73002
    simp -implicitDefEqProofs only [agR, Nat.reduceLeDiff, Nat.reduceSub, vaR, go_sem, ints, rows, rat, rats, ratsO, rtR, intsO, rowsO, hq51001, hq51002, hq51003, hq72, hq73001, hq73002]
  simp -implicitDefEqProofs only [go_sem, evR, ints, rows, rat, rats, opR, Nat.reduceBEq, cellsV, noLk, readOK, readA, mergeR_at, not_true_eq_false, decide_true, decide_false]
  have hc14 := laws_toStrategy_ok s hs12
  (try simp only [gameT, stratT, claimT, gameO, stratO, claimO, nodes, nodesO, rows, rowsO, ints, intsO, tr3] at hc14)
  refine CallC.res hc14 [] rfl Try.call22 (fun e R' hR => ?_) (.inl rfl) ?_
  · simp -implicitDefEqProofs only [agR, Nat.reduceLeDiff, Nat.reduceSub, vaR, go_sem, ints, rows, rat, rats, ratsO, rtR, intsO, rowsO]
  simp -implicitDefEqProofs only [clR, Nat.reduceLeDiff, go_sem, evR, rat, opR, Nat.reduceBEq, cellsV, noLk, readOK, readA, mergeR_at]
  have hc15 := laws_eqStrategy_ok s s hs12 hs12
  (try simp only [gameT, stratT, claimT, gameO, stratO, claimO, nodes, nodesO, rows, rowsO, ints, intsO, tr3] at hc15)
  refine CallV.pure hc15 [52002, 77] rfl Try.call25 (fun e R' hR => ?_) (by first | trivial | simp [T.noSh, T.noShL, rat]) (fun _ => rfl) ?_
  · have hq52002 := (hR 52002).resolve_left (by simp -implicitDefEqProofs only [go_sem, evR, ints, rows, rat, rats, not_false_eq_true]); have hq77 := (hR 77).resolve_left (by simp -implicitDefEqProofs only [go_sem, evR, ints, rows, rat, rats, not_false_eq_true])
    simp -implicitDefEqProofs only [go_sem, evR, ints, rows, rat, rats] at hq52002 hq77
    simp -implicitDefEqProofs only [agR, Nat.reduceLeDiff, Nat.reduceSub, vaR, go_sem, ints, rows, rat, rats, ratsO, rtR, intsO, rowsO, hq52002, hq77]
  simp -implicitDefEqProofs only [go_sem, evR, ints, rows, rat, rats, opR, Nat.reduceBEq, cellsV, noLk, readOK, readA, mergeR_at, not_true_eq_false, decide_true, decide_false]
  have hc16 := laws_toStrategy_ok t ht12
  (try simp only [gameT, stratT, claimT, gameO, stratO, claimO, nodes, nodesO, rows, rowsO, ints, intsO, tr3] at hc16)
  refine CallC.res hc16 [] rfl Try.call22 (fun e R' hR => ?_) (.inl rfl) ?_
  · simp -implicitDefEqProofs only [agR, Nat.reduceLeDiff, Nat.reduceSub, vaR, go_sem, ints, rows, rat, rats, ratsO, rtR, intsO, rowsO]
  simp -implicitDefEqProofs only [clR, Nat.reduceLeDiff, go_sem, evR, rat, opR, Nat.reduceBEq, cellsV, noLk, readOK, readA, mergeR_at]
  have hc17 := laws_eqStrategy_ok t t ht12 ht12
  (try simp only [gameT, stratT, claimT, gameO, stratO, claimO, nodes, nodesO, rows, rowsO, ints, intsO, tr3] at hc17)
  refine CallV.pure hc17 [53002, 82] rfl Try.call25 (fun e R' hR => ?_) (by first | trivial | simp [T.noSh, T.noShL, rat]) (fun _ => rfl) ?_
  · have hq53002 := (hR 53002).resolve_left (by simp -implicitDefEqProofs only [go_sem, evR, ints, rows, rat, rats, not_false_eq_true]); have hq82 := (hR 82).resolve_left (by simp -implicitDefEqProofs only [go_sem, evR, ints, rows, rat, rats, not_false_eq_true])
    simp -implicitDefEqProofs only [go_sem, evR, ints, rows, rat, rats] at hq53002 hq82
    simp -implicitDefEqProofs only [agR, Nat.reduceLeDiff, Nat.reduceSub, vaR, go_sem, ints, rows, rat, rats, ratsO, rtR, intsO, rowsO, hq53002, hq82]
  simp -implicitDefEqProofs only [go_sem, evR, ints, rows, rat, rats, opR, Nat.reduceBEq, cellsV, noLk, readOK, readA, mergeR_at, not_true_eq_false, decide_true, decide_false]
end
end Go.Ab

set_option linter.unusedSimpArgs false
set_option linter.unusedVariables false
namespace Go.Proofs.Ytgingfdddndlfaa
open Go.ChangeShapes Go.WideShapes Go.ChangeAt Go.RowKit Go.Ab

namespace fnExactGainsOf
theorem said : ∀ xs, wtL [tyGame, tyStrat, tyStrat] xs → Pure Try.prog 10 xs (.b true)
  | [x0, x1, x2], h => by
    obtain ⟨g, rfl, hg⟩ := wt_game h.1
    obtain ⟨s, rfl, hs⟩ := wt_strat h.2.1
    obtain ⟨t, rfl, ht⟩ := wt_strat h.2.2.1
    exact laws_FnExactGainsOf_ok g hg s hs t ht
  | [], h => h.elim
  | [_], h => h.2.elim
  | [_, _], h => h.2.2.elim
  | _ :: _ :: _ :: _ :: _, h => h.2.2.2.elim

set_option maxRecDepth 100000 in
theorem lifted (os : Os) (started : os.Started) (H : Type) (enc : TypeId × Value → H) :
    ReturnsInHanded {} Try.checked os 10 .any (Rows.fnExactGainsOfSpec.pre6 enc Try.prog Try.f10 Rows.fnExactGainsOfRow.domain false) (Rows.fnExactGainsOfSpec.post enc Try.prog Try.f10 false true false false) := by
  refine returnsInHanded_of_change (C := Try.checked) (by kernel_rfl) started (by kernel_rfl) Try.func10
    (ChangeSpec.witness6 (enc := enc) (C := Try.checked) false ⟨#[], #[.agg #[.slice none 0 0, .slice none 0 0, .slice none 0 0], .agg #[.int .i64 0, .slice none 0 0], .agg #[.int .i64 0, .slice none 0 0]], []⟩ 8 (by kernel_rfl) (by kernel_rfl) (by kernel_rfl) (by kernel_rfl)) ?_
  intro W base args ds gs before hval hW _ _
  refine law_contract (tys := [tyGame, tyStrat, tyStrat]) (by kernel_rfl) (by kernel_rfl) rfl (by kernel_rfl) rfl (fun ds h => ?_) said W base args ds gs before hval hW
  match ds, h with
  | [d0, d1, d2], _ => rfl

theorem andT {a b : Bool} (ha : a = true) (hb : b = true) : (a && b) = true := by rw [ha, hb]; rfl
theorem joined0 : ((Rows.fnExactGainsOfRow.wf (OpenSpec.ofChange Rows.fnExactGainsOfSpec))) = true := by kernel_rfl
theorem joined1 : (laidOutB Try.prog) = true := Try.laidOutT
theorem joined2 : (mapsRowed Try.prog) = true := Try.mapsRowedT
theorem joined3 : (Try.f10.params.all (Try.prog.readableRec ·)) = true := by kernel_rfl
theorem joined4 : (namedTie Try.prog Rows.fnExactGainsOfRow.named Rows.fnExactGainsOfSpec.vars) = true := by kernel_rfl
theorem joined5 : ((Rows.fnExactGainsOfRow.stops == [])) = true := by kernel_rfl
theorem joined6 : ((Try.prog.stops == [])) = true := by kernel_rfl
theorem joined7 : ((Rows.fnExactGainsOfRow.knobs == [])) = true := by kernel_rfl
theorem joined8 : ((Try.prog.stopKnobs == [])) = true := by kernel_rfl
theorem joined9 : ((Rows.fnExactGainsOfRow.inPlace == Try.prog.inPlace 10)) = true := by kernel_rfl
theorem joined10 : ((Rows.fnExactGainsOfRow.unfollowed == Try.prog.unfollowed 10)) = true := by kernel_rfl
theorem joined11 : ((Rows.fnExactGainsOfRow.recurses == Try.prog.recurses 10)) = true := by kernel_rfl
theorem joined12 : ((Rows.fnExactGainsOfRow.named == Try.prog.varsNamed 10)) = true := by kernel_rfl
theorem joined13 : ((Rows.fnExactGainsOfRow.maps == (Try.f10.params.toList ++ Rows.fnExactGainsOfSpec.plain.varTypes Try.prog).any (Try.prog.mapsRec ·))) = true := by kernel_rfl
theorem joined14 : ((Rows.fnExactGainsOfRow.ifaces == (Try.f10.params.toList ++ Rows.fnExactGainsOfSpec.plain.varTypes Try.prog).any (Try.prog.ifacesRec ·))) = true := by kernel_rfl
theorem joined15 : ((Rows.fnExactGainsOfRow.mapsOut == Try.prog.mapsAmong Try.f10.resultTypes.toList)) = true := by kernel_rfl
theorem joined16 : ((Rows.fnExactGainsOfRow.loops == (Try.f10.params.toList ++ Rows.fnExactGainsOfSpec.plain.varTypes Try.prog).any (Try.prog.loopsFrom ·))) = true := by kernel_rfl
theorem joined17 : ((Rows.fnExactGainsOfRow.wideKeys == (Try.f10.params.toList ++ Rows.fnExactGainsOfSpec.plain.varTypes Try.prog ++ Try.f10.resultTypes.toList).any (Try.prog.wideKeysFrom ·))) = true := by kernel_rfl
theorem joined18 : (Rows.fnExactGainsOfSpec.vars.all (Try.prog.varReadable ·)) = true := by kernel_rfl
theorem joined19 : (Try.f10.resultTypes.all (fun t => Try.prog.readableRec t && decide (t < Try.prog.types.size))) = true := by kernel_rfl
theorem joined20 : ((Rows.fnExactGainsOfRow.ifacesOut == Try.f10.resultTypes.toList.any (Try.prog.ifacesRec ·))) = true := by kernel_rfl
theorem joined21 : ((Rows.fnExactGainsOfRow.loopsOut == Try.f10.resultTypes.toList.any (Try.prog.loopsFrom ·))) = true := by kernel_rfl
theorem joined22 : ((Rows.fnExactGainsOfRow.plainKeys == Try.prog.plainKeys)) = true := by kernel_rfl
theorem joined23 : (Rows.fnExactGainsOfRow.shortTexts.isNone) = true := by kernel_rfl
theorem joined24 : (Try.prog.stopsHeard) = true := Try.heardT
theorem joined25 : (Try.prog.mayEnter) = true := Try.mayEnterT
theorem joined26 : ((Rows.fnExactGainsOfRow.lifted == Try.prog.liftsFinal)) = true := (by rw [Try.liftsF]; rfl)
theorem joined27 : ((Try.prog.make == some Rows.fnExactGainsOfRow.make)) = true := (by rw [Try.makeC]; rfl)
theorem joined28 : ((Rows.fnExactGainsOfRow.kinds == (if Rows.fnExactGainsOfRow.domain.isEmpty then [] else Try.f10.params.toList.map fun t => match Try.prog.underlying t with | some (.int k) => some k | _ => none))) = true := by kernel_rfl
theorem joined29 : ((Rows.fnExactGainsOfRow.pinned == Rows.fnExactGainsOfRow.pinnedBy)) = true := by kernel_rfl
theorem joined30 : ((Rows.fnExactGainsOfRow.veiled == (Try.f10.params.toList ++ Rows.fnExactGainsOfSpec.plain.varTypes Try.prog ++ Try.f10.resultTypes.toList).any (Try.prog.veiledRec ·))) = true := by kernel_rfl
theorem joined31 : (Rows.fnExactGainsOfRow.veiledFits Try.prog Try.f10.params.toList (Try.f10.params.toList ++ Rows.fnExactGainsOfSpec.plain.varTypes Try.prog ++ Try.f10.resultTypes.toList)) = true := by kernel_rfl
set_option maxRecDepth 100000 in
theorem joined : joinedFacts Try.prog 10 Try.f10 Rows.fnExactGainsOfSpec Rows.fnExactGainsOfRow = true := by
  unfold joinedFacts
  exact andT (andT (andT (andT (andT (andT (andT (andT (andT (andT (andT (andT (andT (andT (andT (andT (andT (andT (andT (andT (andT (andT (andT (andT (andT (andT (andT (andT (andT (andT (andT (joined0) joined1) joined2) joined3) joined4) joined5) joined6) joined7) joined8) joined9) joined10) joined11) joined12) joined13) joined14) joined15) joined16) joined17) joined18) joined19) joined20) joined21) joined22) joined23) joined24) joined25) joined26) joined27) joined28) joined29) joined30) joined31
theorem over : Rows.fnExactGainsOfRow.holds Try.pinned (OpenSpec.ofChange Rows.fnExactGainsOfSpec) :=
  OpenClaim.holds_of_wide 10 Try.f10 rfl rfl rfl rfl rfl rfl rfl ⟨rfl, rfl, rfl, rfl, rfl⟩ rfl rfl rfl rfl rfl (by kernel_rfl) Try.func10 joined
    (of_decide_eq_true (by kernel_rfl)) (by unfold Func.isWrapper; first | (rw [if_pos (by decide +kernel)]; kernel_rfl) | (rw [if_neg (by decide +kernel)]; exact ⟨rfl, rfl⟩))
    (fun os started H enc _ => lifted os started H enc)
end fnExactGainsOf

theorem fnExactGainsOf_holds : Rows.FnExactGainsOfSaid := fnExactGainsOf.over
#print axioms fnExactGainsOf_holds
end Go.Proofs.Ytgingfdddndlfaa
