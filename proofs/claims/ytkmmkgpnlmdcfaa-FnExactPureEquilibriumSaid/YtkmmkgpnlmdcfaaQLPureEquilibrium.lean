/- The program's PureEquilibrium returns what the reference's returns, for all arguments, and keeps its arguments (and its earlier result): the law FnExactPureEquilibrium returns true for every input. No conditions. -/
import Derived.Test.YtkmmkgpnlmdcfaaRows
import Derived.Test.YtkmmkgpnlmdcfaaQ4
/- Contracts: values of nodes and numbers of games. -/
set_option linter.unusedSimpArgs false
set_option linter.unusedVariables false
namespace Go.Ab
open Go.Proofs

def chP (g : Gm) (s t : List (List Int)) (i a b : Nat) : List Int := if (g.nd.getD i nd0).p = 0 then partsOf g s 0 i a else partsOf g t 1 i b
theorem partsOK_row {g : Gm} {pt : List (List Int)} {pl : Int} (hnd : ndsOK g.nd) (hpl : pl ≠ 2) (h : partsOK g pt pl) {i c : Nat} (hi : i < g.nd.length) (hc : c < g.w.length) (hp : (g.nd.getD i nd0).p = pl) : pt[setI g pl i c]? = some (partsOf g pt pl i c) := by
  obtain ⟨m1, m2, m3⟩ := h i c hi hc hp
  unfold partsOf at m3 ⊢
  rw [List.getD_eq_getElem?_getD] at m3 ⊢
  cases hx : pt[setI g pl i c]? with
  | some x => rfl
  | none => rw [hx] at m3; simp [sumI] at m3
theorem chP_spec {g : Gm} {s t : List (List Int)} (hnd : ndsOK g.nd) (hs : partsOK g s 0) (ht : partsOK g t 1) {i a b : Nat} (hi : i < g.nd.length) (ha : a < g.w.length) (hb : b < g.w.length) (h2 : (g.nd.getD i nd0).p ≠ 2) :
    (chP g s t i a b).length = (g.nd.getD i nd0).ch.length ∧ (∀ x ∈ chP g s t i a b, 0 ≤ x ∧ x ≤ 60) ∧ sumI (chP g s t i a b) = 60 := by
  have hx : g.nd[i]? = some (g.nd.getD i nd0) := by rw [List.getD_eq_getElem?_getD, List.getElem?_eq_getElem hi]; rfl
  obtain ⟨⟨r1, r2⟩, _⟩ := ndOK_fields (hnd i _ hx)
  unfold chP
  by_cases h0 : (g.nd.getD i nd0).p = 0
  · rw [if_pos h0]; exact hs i a hi ha h0
  · rw [if_neg h0]; exact ht i b hi hb (by omega)
theorem valK_all {g : Gm} {s t : List (List Int)} {f i a b p : Nat} (h2 : (g.nd.getD i nd0).p ≠ 2) {n : Nat} (hn : (g.nd.getD i nd0).ch.length ≤ n) : valK g s t f a b (p - 1) (chP g s t i a b) (g.nd.getD i nd0).ch n = val g s t (f + 1) i a b p := by
  rw [val]
  (try simp only [])
  rw [if_neg h2, valK, chP, List.take_of_length_le]
  rw [List.length_zipWith]; omega
theorem valK_abs {g : Gm} {s t : List (List Int)} (hnd : ndsOK g.nd) (hs : partsOK g s 0) (ht : partsOK g t 1) {a b : Nat} (ha : a < g.w.length) (hb : b < g.w.length) {f p : Nat} {q ch : List Int} (hq : ∀ x ∈ q, 0 ≤ x ∧ x ≤ 60) (hc : ∀ c ∈ ch, 0 ≤ c ∧ c.toNat < g.nd.length ∧ dep g.nd f c.toNat ≤ p) : ∀ k, k ≤ q.length → k ≤ ch.length → -(k * (6000 * pw p)) ≤ valK g s t f a b p q ch k ∧ valK g s t f a b p q ch k ≤ k * (6000 * pw p)
  | 0, _, _ => by simp [valK, sumI]
  | k + 1, h, h' => by
    have ih := valK_abs hnd hs ht ha hb hq hc k (by omega) (by omega)
    have hx := List.getElem?_eq_getElem (show k < q.length by omega)
    have hy := List.getElem?_eq_getElem (show k < ch.length by omega)
    rw [valK_succ hx hy]
    have h1 := hq _ (List.getElem_mem (show k < q.length by omega))
    have h2 := hc _ (List.getElem_mem (show k < ch.length by omega))
    have h3 := val_abs hnd hs ht ha hb f _ p h2.2.1 h2.2.2
    obtain ⟨m1, m2⟩ := mul_abs h1.1 h3.1 h3.2
    have hp := pw_pos p
    have m3 : 100 * pw p * q[k] ≤ 100 * pw p * 60 := Int.mul_le_mul_of_nonneg_left h1.2 (by omega)
    have e : ((k + 1 : Nat) : Int) * (6000 * pw p) = (k : Int) * (6000 * pw p) + 6000 * pw p := by rw [Int.natCast_succ, Int.add_mul, Int.one_mul]
    rw [e]
    generalize (k : Int) * (6000 * pw p) = Z at ih ⊢
    generalize q[k] * val g s t f (ch[k]).toNat a b p = Y at m1 m2 ⊢
    generalize 100 * pw p * q[k] = U at m1 m2 m3
    omega
theorem pw_le5 {p : Nat} (h : p ≤ 5) : 1 ≤ pw p ∧ pw p ≤ 777600000 := by
  have : p = 0 ∨ p = 1 ∨ p = 2 ∨ p = 3 ∨ p = 4 ∨ p = 5 := by omega
  rcases this with rfl | rfl | rfl | rfl | rfl | rfl <;> decide

def gF (g : Gm) (s t : List (List Int)) (a b : Nat) : Int := (g.w.getD a []).getD b 0 * val g s t g.nd.length 0 a b (dpt g)
theorem gnum_eq (g : Gm) (s t : List (List Int)) : gnum g s t = sumI ((List.range g.w.length).map fun a => sumI ((List.range g.w.length).map (gF g s t a))) := rfl
theorem gF_abs {g : Gm} {s t : List (List Int)} (hg : isGameB g = true) (hs : partsOK g s 0) (ht : partsOK g t 1) {a b : Nat} (ha : a < g.w.length) (hb : b < g.w.length) : -700000000000 ≤ gF g s t a b ∧ gF g s t a b ≤ 700000000000 := by
  obtain ⟨p1, p2, p3, p4, p5⟩ := isGameB_parts hg
  obtain ⟨t1, t2, t3, t4⟩ := isTreeB_spec p1
  obtain ⟨u1, u2, u3, u4, u5, u6, u7⟩ := game_unit hg
  obtain ⟨r, y, h1, h2, h3, h4⟩ := game_w hg ha hb
  have hv := val_abs t2 hs ht ha hb g.nd.length 0 (dpt g) (by omega) (by omega)
  unfold gF
  rw [show (g.w.getD a []).getD b 0 = y by simp only [List.getD_eq_getElem?_getD, h1, Option.getD_some, h2]]
  obtain ⟨m1, m2⟩ := mul_abs h3 hv.1 hv.2
  have m3 : 100 * pw (dpt g) * y ≤ 77760000000 * 9 := Int.mul_le_mul (by omega) h4 h3 (by decide)
  omega
theorem sumI_rsucc (F : Nat → Int) (n : Nat) : sumI ((List.range (n + 1)).map F) = sumI ((List.range n).map F) + F n := by
  rw [List.range_succ, List.map_append, List.map_cons, List.map_nil, sumI_snoc]
theorem gR_abs {g : Gm} {s t : List (List Int)} (hg : isGameB g = true) (hs : partsOK g s 0) (ht : partsOK g t 1) {a : Nat} (ha : a < g.w.length) {n : Nat} (hn : n ≤ g.w.length) : -(n * 700000000000) ≤ sumI ((List.range n).map (gF g s t a)) ∧ sumI ((List.range n).map (gF g s t a)) ≤ n * 700000000000 :=
  sumI_range_abs fun b hb => gF_abs hg hs ht ha (by omega)
theorem gS_abs {g : Gm} {s t : List (List Int)} (hg : isGameB g = true) (hs : partsOK g s 0) (ht : partsOK g t 1) {n : Nat} (hn : n ≤ g.w.length) : -(n * 4200000000000) ≤ sumI ((List.range n).map fun a => sumI ((List.range g.w.length).map (gF g s t a))) ∧ sumI ((List.range n).map fun a => sumI ((List.range g.w.length).map (gF g s t a))) ≤ n * 4200000000000 := by
  obtain ⟨p1, p2, p3, p4, p5⟩ := isGameB_parts hg
  refine sumI_range_abs fun a ha => ?_
  have h := gR_abs hg hs ht (a := a) (by omega) (Nat.le_refl g.w.length)
  omega
theorem gnum_abs {g : Gm} {s t : List (List Int)} (hg : isGameB g = true) (hs : partsOK g s 0) (ht : partsOK g t 1) : -25200000000000 ≤ gnum g s t ∧ gnum g s t ≤ 25200000000000 := by
  obtain ⟨p1, p2, p3, p4, p5⟩ := isGameB_parts hg
  have h := gS_abs hg hs ht (Nat.le_refl g.w.length)
  rw [gnum_eq]
  omega
section
attribute [-go_sem] load1C load1V fldC lenC idxC loadNV nilCheckW
set_option maxRecDepth 20000 in
theorem impl_partsAt_ok {g : Gm} {s t : List (List Int)} (hg : isGameB g = true) (hs : partsOK g s 0) (ht : partsOK g t 1) {i a b : Nat} (hi : i < g.nd.length) (ha : a < g.w.length) (hb : b < g.w.length) (h2 : (g.nd.getD i nd0).p ≠ 2) :
    Pure Try.prog 214 [.pin (evL g s t) 0, .i i, .i a, .i b] (ints (chP g s t i a b)) := by
  obtain ⟨p1, p2, p3, p4, p5⟩ := isGameB_parts hg
  obtain ⟨t1, t2, t3, t4⟩ := isTreeB_spec p1
  obtain ⟨x, hx⟩ : ∃ x, g.nd[i]? = some x := ⟨_, List.getElem?_eq_getElem hi⟩
  have hxd : g.nd.getD i nd0 = x := by rw [List.getD_eq_getElem?_getD, hx]; rfl
  obtain ⟨⟨r1, r2⟩, _⟩ := ndOK_fields (t2 _ _ hx)
  rw [hxd] at h2
  refine fun___impl_evaluator__partsAt (by simp) ?_
  have hcase : x.p = 0 ∨ x.p = 1 := by omega
  rcases hcase with h0 | h0
  · have hpd : (g.nd.getD i nd0).p = 0 := by rw [hxd]; exact h0
    have hrow := partsOK_row t2 (by decide) hs hi ha hpd
    have hoi := ownL_get hi hpd
    have hol := ownL_length g 0
    have hrl := (List.getElem?_eq_some_iff.1 hrow).1
    have hset : setI g 0 i a = (idxs g.nd 0 i).length * g.w.length + a := rfl
    have hil := idxs_length g.nd 0 i
    have hm : (idxs g.nd 0 i).length * g.w.length ≤ 60 * 6 := Nat.mul_le_mul (by omega) p2.2
    rw [chP, if_pos hpd]
    simp -implicitDefEqProofs only [go_sem, evR, ints, rows, rat, rats, c___impl_evaluator__partsAt, evL, nodes, nd_get0 hx, h0, hoi, hrow, hol, show ((0 : Int) == 1) = false from rfl, show ((1 : Int) == 1) = true from rfl, show IntKind.i64.wrap ((((idxs g.nd 0 i).length * g.w.length : Nat) : Int) + (a : Int)) = ((setI g 0 i a : Nat) : Int) by rw [wrap64 (by omega) (by omega)]; omega]
    rw [nd_len]; omega
  · have hpd : (g.nd.getD i nd0).p = 1 := by rw [hxd]; exact h0
    have hrow := partsOK_row t2 (by decide) ht hi hb hpd
    have hoi := ownL_get hi hpd
    have hol := ownL_length g 1
    have hrl := (List.getElem?_eq_some_iff.1 hrow).1
    have hset : setI g 1 i b = (idxs g.nd 1 i).length * g.w.length + b := rfl
    have hil := idxs_length g.nd 1 i
    have hm : (idxs g.nd 1 i).length * g.w.length ≤ 60 * 6 := Nat.mul_le_mul (by omega) p2.2
    rw [chP, if_neg (by omega)]
    simp -implicitDefEqProofs only [go_sem, evR, ints, rows, rat, rats, c___impl_evaluator__partsAt, evL, nodes, nd_get0 hx, h0, hoi, hrow, hol, show ((0 : Int) == 1) = false from rfl, show ((1 : Int) == 1) = true from rfl, show IntKind.i64.wrap ((((idxs g.nd 1 i).length * g.w.length : Nat) : Int) + (b : Int)) = ((setI g 1 i b : Nat) : Int) by rw [wrap64 (by omega) (by omega)]; omega]
    rw [nd_len]; omega
theorem partsAt_t {g : Gm} {s t : List (List Int)} (hg : isGameB g = true) (hs : partsOK g s 0) (ht : partsOK g t 1) {i a b : Nat} (hi : i < g.nd.length) (ha : a < g.w.length) (hb : b < g.w.length) (h2 : (g.nd.getD i nd0).p ≠ 2) :
    Pure Try.prog 214 [.pin [.sh 5 (chunk nodeC g.nd), .sh 1 (g.w.map ints), .sh 1 (g.v.map ints), .sh 1 ((ownL g 0).map T.i), .sh 1 ((ownL g 1).map T.i), .sh 1 (s.map ints), .sh 1 (t.map ints), .sh 1 ((parN g.nd g.nd.length).map T.i)] 0, .i i, .i a, .i b] (ints (chP g s t i a b)) := impl_partsAt_ok hg hs ht hi ha hb h2
theorem value_t {g : Gm} {s t : List (List Int)} {i a b p : Int} {r : Int} (h : Pure Try.prog 180 [.pin (evL g s t) 0, .i i, .i a, .i b, .i p] (.i r)) :
    Pure Try.prog 180 [.pin [.sh 5 (chunk nodeC g.nd), .sh 1 (g.w.map ints), .sh 1 (g.v.map ints), .sh 1 ((ownL g 0).map T.i), .sh 1 ((ownL g 1).map T.i), .sh 1 (s.map ints), .sh 1 (t.map ints), .sh 1 ((parN g.nd g.nd.length).map T.i)] 0, .i i, .i a, .i b, .i p] (.i r) := h
set_option maxRecDepth 20000 in
theorem impl_value_ok {g : Gm} {s t : List (List Int)} (hg : isGameB g = true) (hs : partsOK g s 0) (ht : partsOK g t 1) {a b : Nat} (ha : a < g.w.length) (hb : b < g.w.length) : ∀ (f i p : Nat), g.nd.length ≤ i + f → i < g.nd.length → dep g.nd f i ≤ p → p ≤ 5 →
    Pure Try.prog 180 [.pin (evL g s t) 0, .i i, .i a, .i b, .i p] (.i (val g s t f i a b p)) := by
  obtain ⟨p1, p2, p3, p4, p5⟩ := isGameB_parts hg
  obtain ⟨t1, t2, t3, t4⟩ := isTreeB_spec p1
  have hpay := payOK_of t2
  intro f
  induction f with
  | zero => intro i p h1 h2; omega
  | succ f ih =>
    intro i p hf hi hdp hp5
    obtain ⟨x, hx⟩ : ∃ x, g.nd[i]? = some x := ⟨_, List.getElem?_eq_getElem hi⟩
    have hxd : g.nd.getD i nd0 = x := by rw [List.getD_eq_getElem?_getD, hx]; rfl
    have hxl := (ndOK_fields (t2 _ _ hx)).2.2.2.2.2
    have hpw := pw_le5 hp5
    have hV2 : x.p = 2 → val g s t (f + 1) i a b p = pay g i a b * pw p := fun h => by rw [val]; (try simp only []); rw [if_pos (by rw [hxd]; exact h)]
    have hV1 : x.p ≠ 2 → ∀ n, x.ch.length ≤ n → valK g s t f a b (p - 1) (chP g s t i a b) x.ch n = val g s t (f + 1) i a b p := fun h n hn => by
      have := valK_all (g := g) (s := s) (t := t) (f := f) (i := i) (a := a) (b := b) (p := p) (n := n) (by rw [hxd]; exact h) (by rw [hxd]; exact hn)
      rw [hxd] at this; exact this
    generalize val g s t (f + 1) i a b p = V' at hV2 hV1 ⊢
    refine fun___impl_evaluator__value (by simp) ?_
    simp -implicitDefEqProofs only [go_sem, evR, ints, rows, rat, rats, c___impl_evaluator__value, evL, nodes, nd_at hx]
    refine ⟨by omega, by rw [nd_len]; omega, by rw [nd_len]; omega, ?_⟩
    refine ⟨fun h2 => ?_, fun h2 => ?_⟩
    · have h2 : x.p = 2 := by simpa using h2
      rw [hV2 h2]
      refine CallW.pure (payoffAt_t hg i a b hi ha hb) [] rfl Try.call213 ?_ (by first | trivial | simp [T.noSh, T.noShL, rat]) rfl ?_
      · simp -implicitDefEqProofs only [agR, Nat.reduceLeDiff, Nat.reduceSub, vaR, go_sem, ints, rows, rat, rats, ratsO, rtR, intsO, rowsO]
      simp -implicitDefEqProofs only [go_sem, evR, ints, rows, rat, rats]
      refine CallW.pure (impl_powerOf_ok p (by omega)) [] rfl Try.call163 ?_ (by first | trivial | simp [T.noSh, T.noShL, rat]) rfl ?_
      · simp -implicitDefEqProofs only [agR, Nat.reduceLeDiff, Nat.reduceSub, vaR, go_sem, ints, rows, rat, rats, ratsO, rtR, intsO, rowsO]
      simp -implicitDefEqProofs only [go_sem, evR, ints, rows, rat, rats]
      have q1 := hpay i a b
      have m1 := Int.mul_le_mul_of_nonneg_right q1.2 (show 0 ≤ pw p by omega)
      have m2 := Int.mul_le_mul_of_nonneg_right q1.1 (show 0 ≤ pw p by omega)
      rw [wrap64 (n := pay g i a b * pw p) (by omega) (by omega)]
    · have h2 : x.p ≠ 2 := by simpa using h2
      have hp2 : (g.nd.getD i nd0).p ≠ 2 := by rw [hxd]; exact h2
      obtain ⟨d1, d2⟩ := dep_child (f := f) hp2
      rw [hxd] at d2
      have hch := ndOK_child (t2 _ _ hx)
      obtain ⟨c1, c2, c3⟩ := chP_spec t2 hs ht hi ha hb hp2
      rw [hxd] at c1
      obtain ⟨p', rfl⟩ : ∃ p', p = p' + 1 := ⟨p - 1, by omega⟩
      have hpw' := pw_le5 (show p' ≤ 5 by omega)
      have hcond : ∀ c ∈ x.ch, 0 ≤ c ∧ c.toNat < g.nd.length ∧ dep g.nd f c.toNat ≤ p' := fun c hc => by
        have h1 := hch c hc
        have h3 := d2 c hc
        omega
      refine CallW.res (partsAt_t hg hs ht hi ha hb hp2) [] rfl Try.call214 ?_ (.inl rfl) ?_
      · simp -implicitDefEqProofs only [agR, Nat.reduceLeDiff, Nat.reduceSub, vaR, go_sem, ints, rows, rat, rats, ratsO, rtR, intsO, rowsO]
      simp -implicitDefEqProofs only [clR, Nat.reduceLeDiff, go_sem, evR, rat, ints]
      rw [Nat.add_sub_cancel] at hV1
      generalize chP g s t i a b = q at hV1 c1 c2 c3 ⊢
      have hKA := valK_abs t2 hs ht ha hb (f := f) c2 hcond
      refine SemC.loopR (σ := Nat) (fun k => St.of [(0, .t (.pin (evL g s t) 0)), (1, .t (.i i)), (2, .t (.i a)), (3, .t (.i b)), (4, .t (.i (p' + 1 : Nat))), (11, .own 11), (12, .t (.i (valK g s t f a b p' q x.ch k))), (42, .t (ints q)), (43, .t (.i q.length)), (44, .t (.i k))] [(11, .box [.i x.p, .i x.a, .i x.b, .i x.f, ints x.ch])]) (fun k => k ≤ q.length) (fun k => q.length - k) 0 (Weak.of _ _ [some 11] (by simp) (by simp) ?_ ?_) (by omega) fun k hk R hn hr he => ?_
      · simp -implicitDefEqProofs only [ints, rows, Nat.reduceBEq, wkR, Nat.reduceEqDiff, ↓reduceIte, wrR, evL, nodes, show valK g s t f a b p' q x.ch 0 = 0 from rfl]
      · exact ⟨⟨_, rfl, .refl _⟩, rfl, trivial⟩
      · rcases Nat.lt_or_ge k q.length with h9 | h9
        · obtain ⟨y, hy⟩ : ∃ y, q[k]? = some y := ⟨_, List.getElem?_eq_getElem h9⟩
          obtain ⟨c, hc⟩ : ∃ c, x.ch[k]? = some c := ⟨_, List.getElem?_eq_getElem (by omega)⟩
          have hyb := c2 y (List.mem_of_getElem? hy)
          have hcb := hcond c (List.mem_of_getElem? hc)
          have hcb1 := hch c (List.mem_of_getElem? hc)
          have hsu := valK_succ (g := g) (s := s) (t := t) (f := f) (a := a) (b := b) (p := p') hy hc
          have k1 := hKA k (by omega) (by omega)
          have k2 := hKA (k + 1) (by omega) (by omega)
          have k3 : (k : Int) * (6000 * pw p') ≤ 4 * 4665600000000 := Int.mul_le_mul (by omega) (by omega) (by omega) (by decide)
          have k4 : ((k + 1 : Nat) : Int) * (6000 * pw p') ≤ 4 * 4665600000000 := Int.mul_le_mul (by omega) (by omega) (by omega) (by decide)
          simp -implicitDefEqProofs only [go_sem, evR, ints, rows, rat, rats, evL, nodes, hy, hc, decide_eq_true (show (k : Int) < (q.length : Int) by omega), wrap64 (n := (p' : Int)) (by omega) (by omega), show ((p' + 1 : Nat) : Int) - 1 = (p' : Int) by omega]
          refine ⟨by omega, by omega, by omega, fun h5 => ⟨by omega, by omega, by omega, ?_⟩, fun h5 => ?_⟩
          · have hcall := value_t (ih c.toNat p' (by omega) hcb.2.1 hcb.2.2 (by omega))
            rw [show ((c.toNat : Nat) : Int) = c by omega] at hcall
            have hva := val_abs t2 hs ht ha hb f c.toNat p' hcb.2.1 hcb.2.2
            obtain ⟨m1, m2⟩ := mul_abs hyb.1 hva.1 hva.2
            have m3 : 100 * pw p' * y ≤ 77760000000 * 60 := Int.mul_le_mul (by omega) hyb.2 hyb.1 (by decide)
            refine CallW.pure hcall [] rfl Try.call180 ?_ (by first | trivial | simp [T.noSh, T.noShL, rat]) rfl ?_
            · simp -implicitDefEqProofs only [agR, Nat.reduceLeDiff, Nat.reduceSub, vaR, go_sem, ints, rows, rat, rats, ratsO, rtR, intsO, rowsO]
            simp -implicitDefEqProofs only [go_sem, evR, ints, rows, rat, rats]
            refine hn _ (k + 1) (Weak.of _ _ [some 11] (by simp) (by simp) ?_ ?_) (by omega) (by omega)
            · simp -implicitDefEqProofs only [ints, rows, Nat.reduceBEq, wkR, Nat.reduceEqDiff, ↓reduceIte, wrR, evL, nodes, next64 h9 (by omega), wrap64 (n := y * val g s t f c.toNat a b p') (by omega) (by omega), ← hsu, wrap64 (n := valK g s t f a b p' q x.ch (k + 1)) (by omega) (by omega)]
            · exact ⟨⟨_, rfl, .refl _⟩, rfl, trivial⟩
          · have hy0 : y = 0 := by have : ¬ y > 0 := by simpa using h5
                                   omega
            rw [hy0, Int.zero_mul, Int.add_zero] at hsu
            refine hn _ (k + 1) (Weak.of _ _ [some 11] (by simp) (by simp) ?_ ?_) (by omega) (by omega)
            · simp -implicitDefEqProofs only [ints, rows, Nat.reduceBEq, wkR, Nat.reduceEqDiff, ↓reduceIte, wrR, evL, nodes, next64 h9 (by omega), hsu]
            · exact ⟨⟨_, rfl, .refl _⟩, rfl, trivial⟩
        · simp -implicitDefEqProofs only [go_sem, evR, ints, rows, rat, rats, evL, nodes, decide_eq_false (show ¬ (k : Int) < (q.length : Int) by omega)]
          refine he _ _ ?_
          simp -implicitDefEqProofs only [go_sem, evR, ints, rows, rat, rats]
          rw [hV1 h2 k (by omega)]

theorem newEv_t (g : Gm) (s t : Int × List (List Int)) (hg : isGameB g = true) : Fun Try.prog 179 [] [.t (.agg [.sh 5 (chunk nodeC g.nd), .sh 1 (g.w.map ints), .sh 1 (g.v.map ints)]), .t (.agg [.i s.1, .sh 1 (s.2.map ints)]), .t (.agg [.i t.1, .sh 1 (t.2.map ints)])] fun o r => o = [] ∧ r = evO g s.2 t.2 := impl_newEvaluator_ok g s t hg
def gS (g : Gm) (s t : List (List Int)) (a : Nat) : Int := sumI ((List.range a).map fun a => sumI ((List.range g.w.length).map (gF g s t a)))
def gT (g : Gm) (s t : List (List Int)) (a b : Nat) : Int := gS g s t a + sumI ((List.range b).map (gF g s t a))
theorem gT_zero (g : Gm) (s t : List (List Int)) (a : Nat) : gT g s t a 0 = gS g s t a := by simp [gT, sumI]
theorem gT_succ (g : Gm) (s t : List (List Int)) (a b : Nat) : gT g s t a (b + 1) = gT g s t a b + gF g s t a b := by rw [gT, sumI_rsucc, gT, Int.add_assoc]
theorem gT_all (g : Gm) (s t : List (List Int)) (a : Nat) : gT g s t a g.w.length = gS g s t (a + 1) := by rw [gT, gS, gS, sumI_rsucc]
theorem gT_abs {g : Gm} {s t : List (List Int)} (hg : isGameB g = true) (hs : partsOK g s 0) (ht : partsOK g t 1) {a b : Nat} (ha : a < g.w.length) (hb : b ≤ g.w.length) : -30000000000000 ≤ gT g s t a b ∧ gT g s t a b ≤ 30000000000000 := by
  obtain ⟨p1, p2, p3, p4, p5⟩ := isGameB_parts hg
  have h1 := gS_abs hg hs ht (n := a) (by omega)
  have h2 := gR_abs hg hs ht ha hb
  unfold gT gS
  omega
set_option maxRecDepth 20000 in
theorem impl_gameNumber_ok {g : Gm} {s t : Int × List (List Int)} (hg : isGameB g = true) (hs : partsOK g s.2 0) (ht : partsOK g t.2 1) : Pure Try.prog 121 [gameT g, stratT s, stratT t] (.i (gnum g s.2 t.2)) := by
  obtain ⟨p1, p2, p3, p4, p5⟩ := isGameB_parts hg
  obtain ⟨t1, t2, t3, t4⟩ := isTreeB_spec p1
  obtain ⟨u1, u2, u3, u4, u5, u6, u7⟩ := game_unit hg
  refine fun_impl_gameNumber (by simp) ?_
  simp -implicitDefEqProofs only [go_sem, evR, ints, rows, rat, rats, c_impl_gameNumber, gameT, stratT, nodes]
  refine CallW.res (newEv_t g s t hg) [] rfl Try.call179 ?_ (.inl rfl) ?_
  · simp -implicitDefEqProofs only [agR, Nat.reduceLeDiff, Nat.reduceSub, vaR, go_sem, ints, rows, rat, rats, ratsO, rtR, intsO, rowsO]
  simp -implicitDefEqProofs only [clR, Nat.reduceLeDiff, go_sem, evR, rat, evO, intsO, nodes, rows]
  refine CallW.pure (dep_t (impl_depthFrom_ok t2 (by omega) g.nd.length 0 (by omega) (by omega) (by omega))) [] rfl Try.call164 ?_ (by first | trivial | simp [T.noSh, T.noShL, rat]) rfl ?_
  · simp -implicitDefEqProofs only [agR, Nat.reduceLeDiff, Nat.reduceSub, vaR, go_sem, ints, rows, rat, rats, ratsO, rtR, intsO, rowsO]
  simp -implicitDefEqProofs only [go_sem, evR, ints, rows, rat, rats]
  rw [u2]
  refine SemC.loopR (σ := Nat) (fun a => St.of [(7, .own 17), (8, .t (.i (dpt g))), (9, .t (.i (gS g s.2 t.2 a))), (22, .t (rows g.w)), (23, .t (.i g.w.length)), (24, .t (.i a))] [(17, evO g s.2 t.2)]) (fun a => a ≤ g.w.length) (fun a => g.w.length - a) 0 (Weak.of _ _ [some 17] (by simp) (by simp) ?_ ?_) (by omega) fun a ha R hn hr he => ?_
  · simp -implicitDefEqProofs only [ints, rows, Nat.reduceBEq, wkR, Nat.reduceEqDiff, ↓reduceIte, wrR, gS, List.range_zero, List.map_nil, sumI]
  · exact ⟨⟨_, rfl, .refl _⟩, rfl, trivial⟩
  · rcases Nat.lt_or_ge a g.w.length with h9 | h9
    · obtain ⟨r, hr0⟩ : ∃ r, g.w[a]? = some r := ⟨_, List.getElem?_eq_getElem h9⟩
      have hrl : r.length = g.w.length := ((matK_iff.1 p3).2 r (List.mem_of_getElem? hr0)).1
      simp -implicitDefEqProofs only [go_sem, evR, ints, rows, rat, rats, evO, nodes, intsO, hr0, decide_eq_true (show (a : Int) < (g.w.length : Int) by omega)]
      refine ⟨by omega, by omega, by omega, ?_⟩
      refine SemC.loopR (σ := Nat) (fun b => St.of [(7, .own 17), (8, .t (.i (dpt g))), (9, .t (.i (gT g s.2 t.2 a b))), (10, .t (.i a)), (22, .t (rows g.w)), (23, .t (.i g.w.length)), (24, .t (.i a)), (29, .t (ints r)), (30, .t (.i r.length)), (31, .t (.i b))] [(17, evO g s.2 t.2)]) (fun b => b ≤ g.w.length) (fun b => g.w.length - b) 0 (Weak.of _ _ [some 17] (by simp) (by simp) ?_ ?_) (by omega) fun b hb R2 hn2 hr2 he2 => ?_
      · simp -implicitDefEqProofs only [ints, rows, Nat.reduceBEq, wkR, Nat.reduceEqDiff, ↓reduceIte, wrR, gT_zero]
      · exact ⟨⟨_, rfl, .refl _⟩, rfl, trivial⟩
      · rcases Nat.lt_or_ge b g.w.length with h8 | h8
        · obtain ⟨r', y, hr1, hy, hy0, hy9⟩ := game_w hg h9 h8
          rw [hr0, Option.some.injEq] at hr1
          subst hr1
          have hgs := gT_succ g s.2 t.2 a b
          have hgf := gF_abs hg hs ht h9 h8
          have k1 := gT_abs hg hs ht h9 (b := b) (by omega)
          have k2 := gT_abs hg hs ht h9 (b := b + 1) (by omega)
          have hF : gF g s.2 t.2 a b = y * val g s.2 t.2 g.nd.length 0 a b (dpt g) := by
            unfold gF; simp only [List.getD_eq_getElem?_getD, hr0, Option.getD_some, hy]
          simp -implicitDefEqProofs only [go_sem, evR, ints, rows, rat, rats, evO, nodes, intsO, hy, decide_eq_true (show (b : Int) < (r.length : Int) by omega)]
          refine ⟨by omega, by omega, by omega, fun h5 => ?_, fun h5 => ?_⟩
          · have hcall := value_t (impl_value_ok hg hs ht h9 h8 g.nd.length 0 (dpt g) (by omega) (by omega) (by omega) u3)
            refine CallW.pure hcall [17] rfl Try.call180 ?_ trivial rfl ?_
            · simp -implicitDefEqProofs only [agR, Nat.reduceLeDiff, Nat.reduceSub, vaR, go_sem, ints, rows, rat, rats, ratsO, rtR, intsO, rowsO, T.toShL.eq_1, T.toShL.eq_2]
            simp -implicitDefEqProofs only [go_sem, evR, ints, rows, rat, rats]
            refine hn2 _ (b + 1) (Weak.of _ _ [some 17] (by simp) (by simp) ?_ ?_) (by omega) (by omega)
            · simp -implicitDefEqProofs only [ints, rows, Nat.reduceBEq, wkR, Nat.reduceEqDiff, ↓reduceIte, wrR, next64 h8 (by omega), ← hF, wrap64 (n := gF g s.2 t.2 a b) (by omega) (by omega), ← hgs, wrap64 (n := gT g s.2 t.2 a (b + 1)) (by omega) (by omega)]
            · exact ⟨⟨_, rfl, .refl _⟩, rfl, trivial⟩
          · have hy0 : y = 0 := by have : ¬ y > 0 := by simpa using h5
                                   omega
            rw [hF, hy0, Int.zero_mul, Int.add_zero] at hgs
            refine hn2 _ (b + 1) (Weak.of _ _ [some 17] (by simp) (by simp) ?_ ?_) (by omega) (by omega)
            · simp -implicitDefEqProofs only [ints, rows, Nat.reduceBEq, wkR, Nat.reduceEqDiff, ↓reduceIte, wrR, next64 h8 (by omega), hgs]
            · exact ⟨⟨_, rfl, .refl _⟩, rfl, trivial⟩
        · simp -implicitDefEqProofs only [go_sem, evR, ints, rows, rat, rats, evO, nodes, intsO, decide_eq_false (show ¬ (b : Int) < (r.length : Int) by omega)]
          refine he2 _ _ ?_
          simp -implicitDefEqProofs only [go_sem, evR, ints, rows, rat, rats]
          refine hn _ (a + 1) (Weak.of _ _ [some 17] (by simp) (by simp) ?_ ?_) (by omega) (by omega)
          · simp -implicitDefEqProofs only [ints, rows, Nat.reduceBEq, wkR, Nat.reduceEqDiff, ↓reduceIte, wrR, next64 h9 (by omega), ← gT_all, show b = g.w.length by omega]
          · exact ⟨⟨_, rfl, .refl _⟩, rfl, trivial⟩
    · simp -implicitDefEqProofs only [go_sem, evR, ints, rows, rat, rats, evO, nodes, intsO, decide_eq_false (show ¬ (a : Int) < (g.w.length : Int) by omega)]
      refine he _ _ ?_
      simp -implicitDefEqProofs only [go_sem, evR, ints, rows, rat, rats]
      rw [show a = g.w.length by omega, gnum_eq]; rfl

set_option maxRecDepth 20000 in
theorem spec_l23Choice_ok {g : Gm} {s t : Int × List (List Int)} (hg : isGameB g = true) (hs : partsOK g s.2 0) (ht : partsOK g t.2 1) {i a b : Nat} (hi : i < g.nd.length) (ha : a < g.w.length) (hb : b < g.w.length) (h2 : (g.nd.getD i nd0).p ≠ 2) :
    Pure Try.prog 216 [gameT g, stratT s, stratT t, .i i, .i a, .i b] (ints (chP g s.2 t.2 i a b)) := by
  obtain ⟨p1, p2, p3, p4, p5⟩ := isGameB_parts hg
  obtain ⟨t1, t2, t3, t4⟩ := isTreeB_spec p1
  obtain ⟨x, hx⟩ : ∃ x, g.nd[i]? = some x := ⟨_, List.getElem?_eq_getElem hi⟩
  have hxd : g.nd.getD i nd0 = x := by rw [List.getD_eq_getElem?_getD, hx]; rfl
  obtain ⟨⟨r1, r2⟩, _⟩ := ndOK_fields (t2 _ _ hx)
  rw [hxd] at h2
  refine fun_spec_l23Choice (by simp) ?_
  have hcase : x.p = 0 ∨ x.p = 1 := by omega
  rcases hcase with h0 | h0
  · have hpd : (g.nd.getD i nd0).p = 0 := by rw [hxd]; exact h0
    have hrow := partsOK_row t2 (by decide) hs hi ha hpd
    have hrl := (List.getElem?_eq_some_iff.1 hrow).1
    rw [chP, if_pos hpd]
    simp -implicitDefEqProofs only [go_sem, evR, ints, rows, rat, rats, c_spec_l23Choice, gameT, stratT, nodes, nd_get0 hx, h0, show ((0 : Int) == 0) = true from rfl]
    refine ⟨by omega, by rw [nd_len]; omega, by rw [nd_len]; omega, ?_⟩
    refine CallV.pure (l23Set_t hg hi hpd ha) [] rfl Try.call221 (fun e R' hR => ?_) (by first | trivial | simp [T.noSh, T.noShL, rat]) (fun _ => rfl) ?_
    · simp -implicitDefEqProofs only [agR, Nat.reduceLeDiff, Nat.reduceSub, vaR, go_sem, ints, rows, rat, rats, ratsO, rtR, intsO, rowsO]
    simp -implicitDefEqProofs only [go_sem, evR, ints, rows, rat, rats, hrow]
    omega
  · have hpd : (g.nd.getD i nd0).p = 1 := by rw [hxd]; exact h0
    have hrow := partsOK_row t2 (by decide) ht hi hb hpd
    have hrl := (List.getElem?_eq_some_iff.1 hrow).1
    rw [chP, if_neg (by omega)]
    simp -implicitDefEqProofs only [go_sem, evR, ints, rows, rat, rats, c_spec_l23Choice, gameT, stratT, nodes, nd_get0 hx, h0, show ((1 : Int) == 0) = false from rfl]
    refine ⟨by omega, by rw [nd_len]; omega, by rw [nd_len]; omega, ?_⟩
    refine CallV.pure (l23Set_t hg hi hpd hb) [] rfl Try.call221 (fun e R' hR => ?_) (by first | trivial | simp [T.noSh, T.noShL, rat]) (fun _ => rfl) ?_
    · simp -implicitDefEqProofs only [agR, Nat.reduceLeDiff, Nat.reduceSub, vaR, go_sem, ints, rows, rat, rats, ratsO, rtR, intsO, rowsO]
    simp -implicitDefEqProofs only [go_sem, evR, ints, rows, rat, rats, hrow]
    omega
theorem choice_t {g : Gm} {s t : Int × List (List Int)} (hg : isGameB g = true) (hs : partsOK g s.2 0) (ht : partsOK g t.2 1) {i a b : Nat} (hi : i < g.nd.length) (ha : a < g.w.length) (hb : b < g.w.length) (h2 : (g.nd.getD i nd0).p ≠ 2) :
    Pure Try.prog 216 [.agg [.sh 5 (chunk nodeC g.nd), .sh 1 (g.w.map ints), .sh 1 (g.v.map ints)], .agg [.i s.1, .sh 1 (s.2.map ints)], .agg [.i t.1, .sh 1 (t.2.map ints)], .i i, .i a, .i b] (ints (chP g s.2 t.2 i a b)) := spec_l23Choice_ok hg hs ht hi ha hb h2
theorem l21Payoff_t {g : Gm} (hg : isGameB g = true) (i a b : Nat) (hi : i < g.nd.length) (ha : a < g.w.length) (hb : b < g.w.length) : Pure Try.prog 215 [.agg [.sh 5 (chunk nodeC g.nd), .sh 1 (g.w.map ints), .sh 1 (g.v.map ints)], .i i, .i a, .i b] (.i (pay g i a b)) := spec_l21Payoff_ok g hg i a b hi ha hb
theorem sval_t {g : Gm} {s t : Int × List (List Int)} {i a b p r : Int} (h : Pure Try.prog 183 [gameT g, stratT s, stratT t, .i i, .i a, .i b, .i p] (.i r)) :
    Pure Try.prog 183 [.agg [.sh 5 (chunk nodeC g.nd), .sh 1 (g.w.map ints), .sh 1 (g.v.map ints)], .agg [.i s.1, .sh 1 (s.2.map ints)], .agg [.i t.1, .sh 1 (t.2.map ints)], .i i, .i a, .i b, .i p] (.i r) := h
set_option maxRecDepth 20000 in
theorem spec_l23Value_ok {g : Gm} {s t : Int × List (List Int)} (hg : isGameB g = true) (hs : partsOK g s.2 0) (ht : partsOK g t.2 1) {a b : Nat} (ha : a < g.w.length) (hb : b < g.w.length) : ∀ (f i p : Nat), g.nd.length ≤ i + f → i < g.nd.length → dep g.nd f i ≤ p → p ≤ 5 →
    Pure Try.prog 183 [gameT g, stratT s, stratT t, .i i, .i a, .i b, .i p] (.i (val g s.2 t.2 f i a b p)) := by
  obtain ⟨p1, p2, p3, p4, p5⟩ := isGameB_parts hg
  obtain ⟨t1, t2, t3, t4⟩ := isTreeB_spec p1
  have hpay := payOK_of t2
  intro f
  induction f with
  | zero => intro i p h1 h2; omega
  | succ f ih =>
    intro i p hf hi hdp hp5
    obtain ⟨x, hx⟩ : ∃ x, g.nd[i]? = some x := ⟨_, List.getElem?_eq_getElem hi⟩
    have hxd : g.nd.getD i nd0 = x := by rw [List.getD_eq_getElem?_getD, hx]; rfl
    have hxl := (ndOK_fields (t2 _ _ hx)).2.2.2.2.2
    have hpw := pw_le5 hp5
    have hV2 : x.p = 2 → val g s.2 t.2 (f + 1) i a b p = pay g i a b * pw p := fun h => by rw [val]; (try simp only []); rw [if_pos (by rw [hxd]; exact h)]
    have hV1 : x.p ≠ 2 → ∀ n, x.ch.length ≤ n → valK g s.2 t.2 f a b (p - 1) (chP g s.2 t.2 i a b) x.ch n = val g s.2 t.2 (f + 1) i a b p := fun h n hn => by
      have := valK_all (g := g) (s := s.2) (t := t.2) (f := f) (i := i) (a := a) (b := b) (p := p) (n := n) (by rw [hxd]; exact h) (by rw [hxd]; exact hn)
      rw [hxd] at this; exact this
    generalize val g s.2 t.2 (f + 1) i a b p = V' at hV2 hV1 ⊢
    refine fun_spec_l23Value (by simp) ?_
    simp -implicitDefEqProofs only [go_sem, evR, ints, rows, rat, rats, c_spec_l23Value, gameT, stratT, nodes, nd_at hx]
    refine ⟨by omega, by rw [nd_len]; omega, by rw [nd_len]; omega, ?_⟩
    refine ⟨fun h2 => ?_, fun h2 => ?_⟩
    · have h2 : x.p = 2 := by simpa using h2
      rw [hV2 h2]
      refine CallW.pure (l21Payoff_t hg i a b hi ha hb) [] rfl Try.call215 ?_ (by first | trivial | simp [T.noSh, T.noShL, rat]) rfl ?_
      · simp -implicitDefEqProofs only [agR, Nat.reduceLeDiff, Nat.reduceSub, vaR, go_sem, ints, rows, rat, rats, ratsO, rtR, intsO, rowsO]
      simp -implicitDefEqProofs only [go_sem, evR, ints, rows, rat, rats]
      refine CallW.pure (spec_l23Power_ok p (by omega)) [] rfl Try.call157 ?_ (by first | trivial | simp [T.noSh, T.noShL, rat]) rfl ?_
      · simp -implicitDefEqProofs only [agR, Nat.reduceLeDiff, Nat.reduceSub, vaR, go_sem, ints, rows, rat, rats, ratsO, rtR, intsO, rowsO]
      simp -implicitDefEqProofs only [go_sem, evR, ints, rows, rat, rats]
      have q1 := hpay i a b
      have m1 := Int.mul_le_mul_of_nonneg_right q1.2 (show 0 ≤ pw p by omega)
      have m2 := Int.mul_le_mul_of_nonneg_right q1.1 (show 0 ≤ pw p by omega)
      rw [wrap64 (n := pay g i a b * pw p) (by omega) (by omega)]
    · have h2 : x.p ≠ 2 := by simpa using h2
      have hp2 : (g.nd.getD i nd0).p ≠ 2 := by rw [hxd]; exact h2
      obtain ⟨d1, d2⟩ := dep_child (f := f) hp2
      rw [hxd] at d2
      have hch := ndOK_child (t2 _ _ hx)
      obtain ⟨c1, c2, c3⟩ := chP_spec t2 hs ht hi ha hb hp2
      rw [hxd] at c1
      obtain ⟨p', rfl⟩ : ∃ p', p = p' + 1 := ⟨p - 1, by omega⟩
      have hpw' := pw_le5 (show p' ≤ 5 by omega)
      have hcond : ∀ c ∈ x.ch, 0 ≤ c ∧ c.toNat < g.nd.length ∧ dep g.nd f c.toNat ≤ p' := fun c hc => by
        have h1 := hch c hc
        have h3 := d2 c hc
        omega
      refine CallW.res (choice_t hg hs ht hi ha hb hp2) [] rfl Try.call216 ?_ (.inl rfl) ?_
      · simp -implicitDefEqProofs only [agR, Nat.reduceLeDiff, Nat.reduceSub, vaR, go_sem, ints, rows, rat, rats, ratsO, rtR, intsO, rowsO]
      simp -implicitDefEqProofs only [clR, Nat.reduceLeDiff, go_sem, evR, rat, ints]
      rw [Nat.add_sub_cancel] at hV1
      generalize chP g s.2 t.2 i a b = q at hV1 c1 c2 c3 ⊢
      have hKA := valK_abs t2 hs ht ha hb (f := f) c2 hcond
      refine SemC.loopR (σ := Nat) (fun k => St.of [(3, .t (.i i)), (4, .t (.i a)), (5, .t (.i b)), (6, .t (.i (p' + 1 : Nat))), (7, .own 7), (8, .own 8), (9, .own 9), (15, .own 15), (16, .t (ints q)), (17, .t (.i (valK g s.2 t.2 f a b p' q x.ch k))), (18, .t (.i k))] [(7, .box [nodes g.nd, rows g.w, rows g.v]), (8, .box [.i s.1, rows s.2]), (9, .box [.i t.1, rows t.2]), (15, .box [.i x.p, .i x.a, .i x.b, .i x.f, ints x.ch])]) (fun k => k ≤ q.length) (fun k => q.length - k) 0 (Weak.of _ _ [some 7, some 8, some 9, some 15] (by simp) (by simp) ?_ ?_) (by omega) fun k hk R hn hr he => ?_
      · simp -implicitDefEqProofs only [ints, rows, Nat.reduceBEq, wkR, Nat.reduceEqDiff, ↓reduceIte, wrR, nodes, show valK g s.2 t.2 f a b p' q x.ch 0 = 0 from rfl]
      · exact ⟨⟨_, rfl, .refl _⟩, rfl, ⟨_, rfl, .refl _⟩, rfl, ⟨_, rfl, .refl _⟩, rfl, ⟨_, rfl, .refl _⟩, rfl, trivial⟩
      · rcases Nat.lt_or_ge k q.length with h9 | h9
        · obtain ⟨y, hy⟩ : ∃ y, q[k]? = some y := ⟨_, List.getElem?_eq_getElem h9⟩
          obtain ⟨c, hc⟩ : ∃ c, x.ch[k]? = some c := ⟨_, List.getElem?_eq_getElem (by omega)⟩
          have hyb := c2 y (List.mem_of_getElem? hy)
          have hcb := hcond c (List.mem_of_getElem? hc)
          have hcb1 := hch c (List.mem_of_getElem? hc)
          have hsu := valK_succ (g := g) (s := s.2) (t := t.2) (f := f) (a := a) (b := b) (p := p') hy hc
          have k1 := hKA k (by omega) (by omega)
          have k2 := hKA (k + 1) (by omega) (by omega)
          have k3 : (k : Int) * (6000 * pw p') ≤ 4 * 4665600000000 := Int.mul_le_mul (by omega) (by omega) (by omega) (by decide)
          have k4 : ((k + 1 : Nat) : Int) * (6000 * pw p') ≤ 4 * 4665600000000 := Int.mul_le_mul (by omega) (by omega) (by omega) (by decide)
          have hcall := sval_t (ih c.toNat p' (by omega) hcb.2.1 hcb.2.2 (by omega))
          rw [show ((c.toNat : Nat) : Int) = c by omega] at hcall
          have hva := val_abs t2 hs ht ha hb f c.toNat p' hcb.2.1 hcb.2.2
          obtain ⟨m1, m2⟩ := mul_abs hyb.1 hva.1 hva.2
          have m3 : 100 * pw p' * y ≤ 77760000000 * 60 := Int.mul_le_mul (by omega) hyb.2 hyb.1 (by decide)
          simp -implicitDefEqProofs only [go_sem, evR, ints, rows, rat, rats, nodes, hy, hc, decide_eq_true (show (k : Int) < (x.ch.length : Int) by omega), wrap64 (n := (p' : Int)) (by omega) (by omega), show ((p' + 1 : Nat) : Int) - 1 = (p' : Int) by omega]
          refine ⟨by omega, by omega, by omega, by omega, by omega, by omega, ?_⟩
          refine CallV.pure hcall [] rfl Try.call183 (fun e R' hR => ?_) (by first | trivial | simp [T.noSh, T.noShL, rat]) (fun _ => rfl) ?_
          · simp -implicitDefEqProofs only [agR, Nat.reduceLeDiff, Nat.reduceSub, vaR, go_sem, ints, rows, rat, rats, ratsO, rtR, intsO, rowsO]
          simp -implicitDefEqProofs only [go_sem, evR, ints, rows, rat, rats]
          refine hn _ (k + 1) (Weak.of _ _ [some 7, some 8, some 9, some 15] (by simp) (by simp) ?_ ?_) (by omega) (by omega)
          · simp -implicitDefEqProofs only [ints, rows, Nat.reduceBEq, wkR, Nat.reduceEqDiff, ↓reduceIte, wrR, nodes, next64 h9 (by omega), wrap64 (n := y * val g s.2 t.2 f c.toNat a b p') (by omega) (by omega), ← hsu, wrap64 (n := valK g s.2 t.2 f a b p' q x.ch (k + 1)) (by omega) (by omega)]
          · exact ⟨⟨_, rfl, .refl _⟩, rfl, ⟨_, rfl, .refl _⟩, rfl, ⟨_, rfl, .refl _⟩, rfl, ⟨_, rfl, .refl _⟩, rfl, trivial⟩
        · simp -implicitDefEqProofs only [go_sem, evR, ints, rows, rat, rats, nodes, decide_eq_false (show ¬ (k : Int) < (x.ch.length : Int) by omega)]
          refine he _ _ ?_
          simp -implicitDefEqProofs only [go_sem, evR, ints, rows, rat, rats]
          rw [hV1 h2 k (by omega)]

set_option maxRecDepth 20000 in
theorem spec_l23Number_ok {g : Gm} {s t : Int × List (List Int)} (hg : isGameB g = true) (hs : partsOK g s.2 0) (ht : partsOK g t.2 1) : Pure Try.prog 125 [gameT g, stratT s, stratT t] (.i (gnum g s.2 t.2)) := by
  obtain ⟨p1, p2, p3, p4, p5⟩ := isGameB_parts hg
  obtain ⟨t1, t2, t3, t4⟩ := isTreeB_spec p1
  obtain ⟨u1, u2, u3, u4, u5, u6, u7⟩ := game_unit hg
  refine fun_spec_l23Number (by simp) ?_
  simp -implicitDefEqProofs only [go_sem, evR, ints, rows, rat, rats, c_spec_l23Number, gameT, stratT, nodes]
  refine CallW.pure (dep_t (spec_l20Depth_ok t2 (by omega) g.nd.length 0 (by omega) (by omega) (by omega))) [] rfl Try.call158 ?_ (by first | trivial | simp [T.noSh, T.noShL, rat]) rfl ?_
  · simp -implicitDefEqProofs only [agR, Nat.reduceLeDiff, Nat.reduceSub, vaR, go_sem, ints, rows, rat, rats, ratsO, rtR, intsO, rowsO]
  simp -implicitDefEqProofs only [go_sem, evR, ints, rows, rat, rats]
  rw [u2]
  refine SemC.loopR (σ := Nat) (fun a => St.of [(3, .own 3), (4, .own 4), (5, .own 5), (7, .t (.i (dpt g))), (8, .t (.i (gS g s.2 t.2 a))), (9, .t (.i a))] [(3, .box [nodes g.nd, rows g.w, rows g.v]), (4, .box [.i s.1, rows s.2]), (5, .box [.i t.1, rows t.2])]) (fun a => a ≤ g.w.length) (fun a => g.w.length - a) 0 (Weak.of _ _ [some 3, some 4, some 5] (by simp) (by simp) ?_ ?_) (by omega) fun a ha R hn hr he => ?_
  · simp -implicitDefEqProofs only [ints, rows, Nat.reduceBEq, wkR, Nat.reduceEqDiff, ↓reduceIte, wrR, nodes, gS, List.range_zero, List.map_nil, sumI]
  · exact ⟨⟨_, rfl, .refl _⟩, rfl, ⟨_, rfl, .refl _⟩, rfl, ⟨_, rfl, .refl _⟩, rfl, trivial⟩
  · rcases Nat.lt_or_ge a g.w.length with h9 | h9
    · obtain ⟨r, hr0⟩ : ∃ r, g.w[a]? = some r := ⟨_, List.getElem?_eq_getElem h9⟩
      have hrl : r.length = g.w.length := ((matK_iff.1 p3).2 r (List.mem_of_getElem? hr0)).1
      simp -implicitDefEqProofs only [go_sem, evR, ints, rows, rat, rats, nodes, hr0, decide_eq_true (show (a : Int) < (g.w.length : Int) by omega)]
      refine SemC.loopR (σ := Nat) (fun b => St.of [(3, .own 3), (4, .own 4), (5, .own 5), (7, .t (.i (dpt g))), (8, .t (.i (gT g s.2 t.2 a b))), (9, .t (.i a)), (10, .t (.i b))] [(3, .box [nodes g.nd, rows g.w, rows g.v]), (4, .box [.i s.1, rows s.2]), (5, .box [.i t.1, rows t.2])]) (fun b => b ≤ g.w.length) (fun b => g.w.length - b) 0 (Weak.of _ _ [some 3, some 4, some 5] (by simp) (by simp) ?_ ?_) (by omega) fun b hb R2 hn2 hr2 he2 => ?_
      · simp -implicitDefEqProofs only [ints, rows, Nat.reduceBEq, wkR, Nat.reduceEqDiff, ↓reduceIte, wrR, nodes, gT_zero]
      · exact ⟨⟨_, rfl, .refl _⟩, rfl, ⟨_, rfl, .refl _⟩, rfl, ⟨_, rfl, .refl _⟩, rfl, trivial⟩
      · rcases Nat.lt_or_ge b g.w.length with h8 | h8
        · obtain ⟨r', y, hr1, hy, hy0, hy9⟩ := game_w hg h9 h8
          rw [hr0, Option.some.injEq] at hr1
          subst hr1
          have hgs := gT_succ g s.2 t.2 a b
          have hgf := gF_abs hg hs ht h9 h8
          have k1 := gT_abs hg hs ht h9 (b := b) (by omega)
          have k2 := gT_abs hg hs ht h9 (b := b + 1) (by omega)
          have hF : gF g s.2 t.2 a b = y * val g s.2 t.2 g.nd.length 0 a b (dpt g) := by
            unfold gF; simp only [List.getD_eq_getElem?_getD, hr0, Option.getD_some, hy]
          have hcall := sval_t (spec_l23Value_ok (s := s) (t := t) hg hs ht h9 h8 g.nd.length 0 (dpt g) (by omega) (by omega) (by omega) u3)
          simp -implicitDefEqProofs only [go_sem, evR, ints, rows, rat, rats, nodes, hr0, hy, decide_eq_true (show (b : Int) < (g.w.length : Int) by omega)]
          refine ⟨by omega, by omega, by omega, by omega, by omega, by omega, fun h5 => ⟨by omega, by omega, by omega, by omega, by omega, by omega, ?_⟩, fun h5 => ?_⟩
          · refine CallV.pure hcall [] rfl Try.call183 (fun e R' hR => ?_) (by first | trivial | simp [T.noSh, T.noShL, rat]) (fun _ => rfl) ?_
            · simp -implicitDefEqProofs only [agR, Nat.reduceLeDiff, Nat.reduceSub, vaR, go_sem, ints, rows, rat, rats, ratsO, rtR, intsO, rowsO]
            simp -implicitDefEqProofs only [go_sem, evR, ints, rows, rat, rats]
            refine hn2 _ (b + 1) (Weak.of _ _ [some 3, some 4, some 5] (by simp) (by simp) ?_ ?_) (by omega) (by omega)
            · simp -implicitDefEqProofs only [ints, rows, Nat.reduceBEq, wkR, Nat.reduceEqDiff, ↓reduceIte, wrR, nodes, next64 h8 (by omega), ← hF, wrap64 (n := gF g s.2 t.2 a b) (by omega) (by omega), ← hgs, wrap64 (n := gT g s.2 t.2 a (b + 1)) (by omega) (by omega)]
            · exact ⟨⟨_, rfl, .refl _⟩, rfl, ⟨_, rfl, .refl _⟩, rfl, ⟨_, rfl, .refl _⟩, rfl, trivial⟩
          · have hy0 : y = 0 := by have : ¬ y > 0 := by simpa using h5
                                   omega
            rw [hF, hy0, Int.zero_mul, Int.add_zero] at hgs
            refine hn2 _ (b + 1) (Weak.of _ _ [some 3, some 4, some 5] (by simp) (by simp) ?_ ?_) (by omega) (by omega)
            · simp -implicitDefEqProofs only [ints, rows, Nat.reduceBEq, wkR, Nat.reduceEqDiff, ↓reduceIte, wrR, nodes, next64 h8 (by omega), hgs]
            · exact ⟨⟨_, rfl, .refl _⟩, rfl, ⟨_, rfl, .refl _⟩, rfl, ⟨_, rfl, .refl _⟩, rfl, trivial⟩
        · simp -implicitDefEqProofs only [go_sem, evR, ints, rows, rat, rats, nodes, decide_eq_false (show ¬ (b : Int) < (g.w.length : Int) by omega)]
          refine he2 _ _ ?_
          simp -implicitDefEqProofs only [go_sem, evR, ints, rows, rat, rats]
          refine hn _ (a + 1) (Weak.of _ _ [some 3, some 4, some 5] (by simp) (by simp) ?_ ?_) (by omega) (by omega)
          · simp -implicitDefEqProofs only [ints, rows, Nat.reduceBEq, wkR, Nat.reduceEqDiff, ↓reduceIte, wrR, nodes, next64 h9 (by omega), ← gT_all, show b = g.w.length by omega]
          · exact ⟨⟨_, rfl, .refl _⟩, rfl, ⟨_, rfl, .refl _⟩, rfl, ⟨_, rfl, .refl _⟩, rfl, trivial⟩
    · simp -implicitDefEqProofs only [go_sem, evR, ints, rows, rat, rats, nodes, decide_eq_false (show ¬ (a : Int) < (g.w.length : Int) by omega)]
      refine he _ _ ?_
      simp -implicitDefEqProofs only [go_sem, evR, ints, rows, rat, rats]
      rw [show a = g.w.length by omega, gnum_eq]; rfl
end
end Go.Ab

/- Games as data: counts, regrets and sums of the iterations. -/
set_option linter.unusedSimpArgs false
set_option linter.unusedVariables false
namespace Go.Ab

/-! Lists that are made new from the left. -/
def mixL {α : Type} (new old : List α) (i : Nat) : List α := new.take i ++ old.drop i
theorem mix_zero {α : Type} (new old : List α) : mixL new old 0 = old := by simp [mixL]
theorem mix_all {α : Type} {new old : List α} (h : new.length = old.length) : mixL new old old.length = new := by simp [mixL, ← h]
theorem mix_length {α : Type} {new old : List α} (h : new.length = old.length) {i : Nat} (hi : i ≤ old.length) : (mixL new old i).length = old.length := by simp [mixL]; omega
theorem mix_get {α : Type} {new old : List α} (h : new.length = old.length) {i : Nat} (hi : i < old.length) : (mixL new old i)[i]? = old[i]? := by
  rw [mixL, List.getElem?_append_right (by simp; omega)]
  simp [List.length_take, h, Nat.min_eq_left (Nat.le_of_lt hi)]
theorem mix_set {α : Type} {new old : List α} (h : new.length = old.length) {i : Nat} {y : α} (hy : new[i]? = some y) : (mixL new old i).set i y = mixL new old (i + 1) := by
  obtain ⟨hi, rfl⟩ := List.getElem?_eq_some_iff.1 hy
  have hl : (new.take i).length = i := by rw [List.length_take]; omega
  rw [mixL, mixL, List.set_append_right _ _ (by omega), hl, Nat.sub_self, List.drop_eq_getElem_cons (show i < old.length by omega), List.set_cons_zero, List.take_add_one, hy, Option.toList_some, List.append_assoc]; rfl
def setN (g : Gm) (pl : Int) (i : Nat) : Nat := (((sets g pl).getD i []).getD 0 0).toNat
def setC (g : Gm) (pl : Int) (i : Nat) : Nat := (((sets g pl).getD i []).getD 1 0).toNat
theorem set_parts {g : Gm} {pl : Int} {i : Nat} (h : i < (sets g pl).length) : (sets g pl)[i]? = some [(setN g pl i : Int), (setC g pl i : Int)] ∧ setN g pl i < g.nd.length ∧ setC g pl i < g.w.length ∧ (g.nd.getD (setN g pl i) nd0).p = pl ∧ sizeAt g pl i = (g.nd.getD (setN g pl i) nd0).ch.length ∧ setI g pl (setN g pl i) (setC g pl i) = i := by
  obtain ⟨n, c, x, h1, h2, h3, h4, h5, h6⟩ := set_elem h
  have e1 : setN g pl i = n := by unfold setN; rw [List.getD_eq_getElem?_getD (l := sets g pl), h1]; simp
  have e2 : setC g pl i = c := by unfold setC; rw [List.getD_eq_getElem?_getD (l := sets g pl), h1]; simp
  have e3 : g.nd.getD n nd0 = x := by rw [List.getD_eq_getElem?_getD, h2]; rfl
  rw [e1, e2, e3]
  refine ⟨h1, h3, h4, h5, h6, ?_⟩
  have hg := sets_get (g := g) (pl := pl) h3 h4 (by rw [e3]; exact h5)
  obtain ⟨n', c', hn', hc', hp', he, _⟩ := sets_find h
  have hg' := sets_get (g := g) (pl := pl) hn' hc' hp'
  rw [← he, h1] at hg'
  simp at hg'
  obtain ⟨a1, a2⟩ := hg'
  have a1 : n = n' := by omega
  have a2 : c = c' := by omega
  rw [a1, a2]; exact he.symm
structure RS where
  r0 : List (List Int)
  r1 : List (List Int)
  s0 : List (List Int)
  s1 : List (List Int)
end Go.Ab

/- The bridge, part 5: bytes. -/
set_option linter.unusedSimpArgs false
set_option linter.unusedVariables false
namespace Go.Ab

def bytes (cs : List Int) : T := .sh 1 (cs.map fun x => .v (.int .u8 x))
end Go.Ab

/- Contracts: the source of drawn numbers. -/
set_option linter.unusedSimpArgs false
set_option linter.unusedVariables false
namespace Go.Ab
open Go.Proofs

def seedOK (a : Nat × Int) : Prop := 0 ≤ a.2 ∧ a.2 < 2147483647 ∧ a.1 ≤ 1000000000000
end Go.Ab

/- Contracts: the shape of drawn trees. -/
set_option linter.unusedSimpArgs false
set_option linter.unusedVariables false
namespace Go.Ab
open Go.Proofs
def LeL (l l' : List T) : Prop := l.length = l'.length ∧ ∀ i (h : i < l.length) (h' : i < l'.length), Le l[i] l'[i]
theorem LeL.refl (l : List T) : LeL l l := ⟨rfl, fun _ _ _ => .refl _⟩
theorem LeL.cons {a a' : T} {l l' : List T} (h : Le a a') (h' : LeL l l') : LeL (a :: l) (a' :: l') := by
  refine ⟨by simp [h'.1], fun i q q' => ?_⟩
  cases i with
  | zero => exact h
  | succ i => simpa using h'.2 i (by simpa using q) (by simpa using q')
theorem LeL.append : ∀ {l l' m m' : List T}, LeL l l' → LeL m m' → LeL (l ++ m) (l' ++ m')
  | [], [], _, _, _, h => h
  | [], _ :: _, _, _, h, _ => absurd h.1 (by simp)
  | _ :: _, [], _, _, h, _ => absurd h.1 (by simp)
  | a :: l, a' :: l', m, m', h, h2 => LeL.cons (h.2 0 (by simp) (by simp)) (LeL.append ⟨by have := h.1; simpa using this, fun i q q' => by have := h.2 (i + 1) (by simpa using q) (by simpa using q'); simpa using this⟩ h2)
theorem LeL.arr {s : Nat} {l l' : List T} (h : LeL l l') : Le (.arr s l) (.arr s l') := .arr s h.1 h.2
def smallN (b : Nat) (l : List Nd) : Prop := l.length ≤ b ∧ ∀ x ∈ l, x.ch.length ≤ 8
section
attribute [-go_sem] load1C load1V fldC lenC idxC loadNV
set_option maxRecDepth 20000 in
set_option maxRecDepth 20000 in
set_option maxRecDepth 20000 in
end
end Go.Ab

/- Contracts: drawn trees, part 2: random trees, exactly. -/
set_option linter.unusedSimpArgs false
set_option linter.unusedVariables false
namespace Go.Ab
open Go.Proofs
def grown (b : Nat) (l : List Nd) (x : List Nd × (Nat × Int)) : Prop := smallN (l.length + b) x.1 ∧ l.length < x.1.length ∧ seedOK x.2
section
attribute [-go_sem] load1C load1V fldC lenC idxC loadNV
end
end Go.Ab

/- Contracts: drawn strategies. -/
set_option linter.unusedSimpArgs false
set_option linter.unusedVariables false
namespace Go.Ab
open Go.Proofs
def sizesL (g : Gm) (pl : Int) : List Int := (List.range (sets g pl).length).map fun i => (sizeAt g pl i : Int)
theorem sizesL_length (g : Gm) (pl : Int) : (sizesL g pl).length = (sets g pl).length := by simp [sizesL]
theorem sizesL_get {g : Gm} {pl : Int} {i : Nat} (h : i < (sets g pl).length) : (sizesL g pl)[i]? = some (sizeAt g pl i : Int) := by simp [sizesL, h]
theorem sizesL_take {g : Gm} {pl : Int} {i : Nat} (h : i < (sets g pl).length) : (sizesL g pl).take (i + 1) = (sizesL g pl).take i ++ [(sizeAt g pl i : Int)] := take_snoc (sizesL_get h)
section
attribute [-go_sem] load1C load1V fldC lenC idxC loadNV nilCheckW
set_option maxRecDepth 20000 in
theorem spec_l22Sizes_ok (g : Gm) (pl : Int) (hl : g.nd.length ≤ 60) (hk : g.w.length ≤ 6) : Fun Try.prog 196 [] [.t (.agg [.sh 5 (chunk nodeC g.nd), .sh 1 (g.w.map ints), .sh 1 (g.v.map ints)]), .t (.i pl)] fun o r => o = [] ∧ r = intsO (sizesL g pl) := by
  refine fun_spec_l22Sizes (by simp) ?_
  simp -implicitDefEqProofs only [go_sem, evR, ints, rows, rat, rats, c_spec_l22Sizes]
  have hsl := sets_len g pl hl hk
  have hp := l21Sets_t g pl hl hk
  simp only [rowsO] at hp
  refine CallW.res hp [] rfl Try.call186 ?_ (.inl rfl) ?_
  · simp -implicitDefEqProofs only [agR, Nat.reduceLeDiff, Nat.reduceSub, vaR, go_sem, ints, rows, rat, rats, ratsO, rtR, intsO, rowsO]
  simp -implicitDefEqProofs only [clR, Nat.reduceLeDiff, go_sem, evR, rat]
  refine SemC.loopR (σ := Nat) (fun i => St.of [(2, .own 2), (5, .t (rows (sets g pl))), (6, .own 96), (7, .t (.i i))] [(2, .box [.sh 5 (chunk nodeC g.nd), .sh 1 (g.w.map ints), .sh 1 (g.v.map ints)]), (96, intsO ((sizesL g pl).take i))]) (fun i => i ≤ (sets g pl).length) (fun i => (sets g pl).length - i) 0 (Weak.trans (Weak.share 10 rfl) (Weak.of _ _ [some 2, some 11] (by simp) (by simp) ?_ ?_)) (by simp) fun i hi R hn hr he => ?_
  · simp -implicitDefEqProofs only [ints, rows, Nat.reduceBEq, wkR, Nat.reduceEqDiff, ↓reduceIte, wrR, shareA, T.toSh, toShL_intsO]
  · exact ⟨⟨_, rfl, .refl _⟩, rfl, ⟨_, rfl, .refl _⟩, rfl, trivial⟩
  rcases Nat.lt_or_ge i (sets g pl).length with h9 | h9
  · obtain ⟨n, c, x, hs, hx, hn1, hc1, hxp, hsz⟩ := set_elem h9
    have hlt : ((sizesL g pl).take i).length = i := by rw [List.length_take, sizesL_length]; omega
    simp -implicitDefEqProofs only [go_sem, evR, ints, rows, rat, rats, intsO, decide_eq_true (show (i : Int) < ((sets g pl).length : Int) by omega), hs, nd_get4 hx, Option.map_some, Option.getD_some]
    refine ⟨by omega, by omega, by omega, by omega, by rw [nd_len]; omega, by rw [nd_len]; omega, by omega, hn _ (i + 1) (Weak.of _ _ [some 2, some 33] (by simp) (by simp) ?_ ?_) (by omega) (by omega)⟩
    · simp -implicitDefEqProofs only [ints, rows, Nat.reduceBEq, wkR, Nat.reduceEqDiff, ↓reduceIte, wrR, next64 h9 (by omega)]
    · refine ⟨⟨_, rfl, .refl _⟩, rfl, ⟨_, rfl, ?_⟩, rfl, trivial⟩
      rw [sizesL_take h9, hsz, intsO, List.map_append]; exact .refl _
  · simp -implicitDefEqProofs only [go_sem, evR, ints, rows, rat, rats, decide_eq_false (show ¬ (i : Int) < ((sets g pl).length : Int) by omega)]
    refine he _ _ ?_
    simp -implicitDefEqProofs only [go_sem, evR, ints, rows, rat, rats, intsO]
    rw [List.take_of_length_le (by rw [sizesL_length]; exact h9)]
theorem size_bound {g : Gm} (hg : isGameB g = true) {pl : Int} (hpl : pl = 0 ∨ pl = 1) {i : Nat} (h : i < (sets g pl).length) : 1 ≤ sizeAt g pl i ∧ sizeAt g pl i ≤ 4 := by
  obtain ⟨n, c, x, hs, hx, hn1, hc1, hxp, hsz⟩ := set_elem h
  obtain ⟨p1, p2, p3, p4, p5⟩ := isGameB_parts hg
  obtain ⟨t1, t2, t3, t4⟩ := isTreeB_spec p1
  obtain ⟨-, -, -, -, f1, f2⟩ := ndOK_fields (t2 _ _ hx)
  rw [hsz]
  exact ⟨(f1 (by omega)).2, f2⟩
end
end Go.Ab

/- Games as data: pure strategies and the table of a game. -/
set_option linter.unusedSimpArgs false
set_option linter.unusedVariables false
namespace Go.Ab

def prodI : List Int → Int
  | [] => 1
  | x :: l => x * prodI l
theorem prodI_append : ∀ l l' : List Int, prodI (l ++ l') = prodI l * prodI l'
  | [], l' => by simp [prodI]
  | x :: l, l' => by rw [List.cons_append, prodI, prodI, prodI_append l l', Int.mul_assoc]
theorem prodI_snoc (l : List Int) (x : Int) : prodI (l ++ [x]) = prodI l * x := by rw [prodI_append]; simp [prodI]
theorem prodI_pos : ∀ {l : List Int}, (∀ x ∈ l, 1 ≤ x) → 1 ≤ prodI l
  | [], _ => by simp [prodI]
  | x :: l, h => by
    have h1 := h x (by simp)
    have h2 := prodI_pos (l := l) fun y hy => h y (by simp [hy])
    rw [prodI]
    have : 1 * 1 ≤ x * prodI l := Int.mul_le_mul h1 h2 (by decide) (by omega)
    omega
theorem prodI_take_le {l : List Int} (h : ∀ x ∈ l, 1 ≤ x) (i : Nat) : prodI (l.take i) ≤ prodI l := by
  have e : prodI l = prodI (l.take i) * prodI (l.drop i) := by rw [← prodI_append, List.take_append_drop]
  have h1 := prodI_pos (l := l.take i) fun x hx => h x (List.mem_of_mem_take hx)
  have h2 := prodI_pos (l := l.drop i) fun x hx => h x (List.mem_of_mem_drop hx)
  have : prodI (l.take i) * 1 ≤ prodI (l.take i) * prodI (l.drop i) := Int.mul_le_mul_of_nonneg_left h2 (by omega)
  omega
theorem prodI_take_succ {l : List Int} {i : Nat} {x : Int} (h : l[i]? = some x) : prodI (l.take (i + 1)) = prodI (l.take i) * x := by
  rw [List.take_add_one, h, Option.toList_some, prodI_snoc]
theorem sizes_ok {g : Gm} (hg : isGameB g = true) {pl : Int} (hpl : pl = 0 ∨ pl = 1) : ∀ x ∈ sizesL g pl, 1 ≤ x ∧ x ≤ 4 := by
  intro x hx
  obtain ⟨i, hi, rfl⟩ := List.mem_map.1 hx
  have := size_bound hg hpl (List.mem_range.1 hi)
  omega
def nPure (g : Gm) (pl : Int) : Int := prodI (sizesL g pl)
theorem nPure_pos {g : Gm} (hg : isGameB g = true) {pl : Int} (hpl : pl = 0 ∨ pl = 1) : 1 ≤ nPure g pl := prodI_pos fun x hx => (sizes_ok hg hpl x hx).1
def cpR (g : Gm) (pl : Int) : Int × Int := if isGameB g = true then (if 0 ≤ pl ∧ pl ≤ 1 then (if nPure g pl ≤ 1000000000 then (nPure g pl, 0) else (0, 3)) else (0, 2)) else (0, 1)
def numA (L : List Int) (num : Int) : Nat → Int
  | 0 => num
  | k + 1 => numA L num k / L.getD (L.length - 1 - k) 1
theorem numA_nonneg {L : List Int} {num : Int} (h : ∀ x ∈ L, 1 ≤ x) (h0 : 0 ≤ num) : ∀ k, k ≤ L.length → 0 ≤ numA L num k ∧ numA L num k ≤ num
  | 0, _ => by simp [numA]; exact h0
  | k + 1, hk => by
    obtain ⟨i1, i2⟩ := numA_nonneg h h0 k (by omega)
    have hm := h _ (getD_mem 1 (show L.length - 1 - k < L.length by omega))
    rw [numA]
    exact ⟨Int.ediv_nonneg i1 (by omega), Int.le_trans (Int.ediv_le_self _ i1) i2⟩
def digA (L : List Int) (num : Int) (i : Nat) : Int := numA L num (L.length - 1 - i) % L.getD i 1
theorem digA_bound {L : List Int} {num : Int} (h : ∀ x ∈ L, 1 ≤ x) {i : Nat} (hi : i < L.length) : 0 ≤ digA L num i ∧ digA L num i < L.getD i 1 := by
  have hm := h _ (getD_mem 1 hi)
  exact ⟨Int.emod_nonneg _ (by omega), Int.emod_lt_of_pos _ (by omega)⟩
theorem sizesL_getD {g : Gm} {pl : Int} {i : Nat} (h : i < (sets g pl).length) : (sizesL g pl).getD i 1 = (sizeAt g pl i : Int) := by
  rw [List.getD_eq_getElem?_getD, sizesL_get h]; rfl
def pureR (g : Gm) (pl num : Int) (i : Nat) : List Int := pureL (sizeAt g pl i) (digA (sizesL g pl) num i).toNat
def pureM (g : Gm) (pl num : Int) : List (List Int) := (List.range (sets g pl).length).map (pureR g pl num)
theorem pureM_length (g : Gm) (pl num : Int) : (pureM g pl num).length = (sets g pl).length := by simp [pureM]
theorem pureM_get {g : Gm} {pl num : Int} {i : Nat} (h : i < (sets g pl).length) : (pureM g pl num)[i]? = some (pureR g pl num i) := by simp [pureM, h]
theorem pureM_strat {g : Gm} (hg : isGameB g = true) {pl : Int} (hpl : pl = 0 ∨ pl = 1) (num : Int) : isStratB g pl (pureM g pl num) = true := by
  rw [isStratB_iff]
  refine ⟨pureM_length _ _ _, fun i hi => ?_⟩
  have hd := digA_bound (num := num) (fun x hx => (sizes_ok hg hpl x hx).1) (show i < (sizesL g pl).length by rw [sizesL_length]; exact hi)
  rw [sizesL_getD hi] at hd
  obtain ⟨q1, q2⟩ := pureL_parts (n := sizeAt g pl i) (j := (digA (sizesL g pl) num i).toNat) (by omega)
  rw [List.getD_eq_getElem?_getD, pureM_get hi, Option.getD_some, partOK_iff]
  exact ⟨pureL_length _ _, List.all_eq_true.2 fun x hx => by simpa using q1 x hx, by rw [← sumI_eq]; exact q2⟩
theorem pureM_parts {g : Gm} (hg : isGameB g = true) {pl : Int} (hpl : pl = 0 ∨ pl = 1) (num : Int) : partsOK g (pureM g pl num) pl := partsOK_of (pureM_strat hg hpl num)
def tabE (g : Gm) (i k : Nat) : Int := (gnum g (pureM g 0 i) (pureM g 1 k)).tdiv (pw (dpt g))
def tabRow (g : Gm) (n : Nat) (i : Nat) : List Int := (List.range n).map (tabE g i)
def tabM (g : Gm) : List (List Int) := (List.range (nPure g 0).toNat).map (tabRow g (nPure g 1).toNat)
def tabR (g : Gm) : List (List Int) × Int := if isGameB g = true then (if nPure g 0 ≤ 16 ∧ nPure g 1 ≤ 16 then (tabM g, 0) else ([], 3)) else ([], 1)
theorem tabE_abs {g : Gm} (hg : isGameB g = true) (i k : Nat) : -25200000000000 ≤ tabE g i k ∧ tabE g i k ≤ 25200000000000 := by
  have h := gnum_abs hg (pureM_parts hg (.inl rfl) i) (pureM_parts hg (.inr rfl) k)
  have hp := pw_pos (dpt g)
  unfold tabE
  generalize gnum g (pureM g 0 i) (pureM g 1 k) = x at h
  generalize pw (dpt g) = y at hp
  have h1 : (x.tdiv y).natAbs ≤ x.natAbs := by rw [Int.natAbs_tdiv]; exact Nat.div_le_self _ _
  omega
theorem tabM_shape {g : Gm} (hg : isGameB g = true) (h : nPure g 0 ≤ 16 ∧ nPure g 1 ≤ 16) : 1 ≤ (tabM g).length ∧ (tabM g).length ≤ 16 ∧ rect (tabM g) (nPure g 1).toNat ∧ 1 ≤ (nPure g 1).toNat ∧ (nPure g 1).toNat ≤ 16 ∧ ∀ r ∈ tabM g, ∀ x ∈ r, -25200000000000 ≤ x ∧ x ≤ 25200000000000 := by
  have h0 := nPure_pos hg (.inl rfl)
  have h1 := nPure_pos hg (.inr rfl)
  refine ⟨by simp [tabM]; omega, by simp [tabM]; omega, fun r hr => ?_, by omega, by omega, fun r hr x hx => ?_⟩
  · obtain ⟨i, _, rfl⟩ := List.mem_map.1 hr
    simp [tabRow]
  · obtain ⟨i, _, rfl⟩ := List.mem_map.1 hr
    obtain ⟨k, _, rfl⟩ := List.mem_map.1 hx
    exact tabE_abs hg i k
end Go.Ab

/- Contracts: numbers of pure strategies. -/
set_option linter.unusedSimpArgs false
set_option linter.unusedVariables false
namespace Go.Ab
open Go.Proofs
theorem prodI_big {g : Gm} (hg : isGameB g = true) {pl : Int} (hpl : pl = 0 ∨ pl = 1) {i : Nat} (h : prodI ((sizesL g pl).take i) > 1000000000) : cpR g pl = (0, 3) := by
  have := prodI_take_le (fun x hx => (sizes_ok hg hpl x hx).1) i
  rw [cpR, if_pos hg, if_pos (by omega), if_neg (by unfold nPure; omega)]
theorem cpR_small {g : Gm} (hg : isGameB g = true) {pl : Int} (hpl : pl = 0 ∨ pl = 1) (h : nPure g pl ≤ 1000000000) : cpR g pl = (nPure g pl, 0) := by rw [cpR, if_pos hg, if_pos (by omega), if_pos h]
theorem prodI_take_pos {g : Gm} (hg : isGameB g = true) {pl : Int} (hpl : pl = 0 ∨ pl = 1) (i : Nat) : 1 ≤ prodI ((sizesL g pl).take i) := prodI_pos fun x hx => (sizes_ok hg hpl x (List.mem_of_mem_take hx)).1
section
attribute [-go_sem] load1C load1V fldC lenC idxC loadNV nilCheckW
theorem spec_l22Code_ok (g : Gm) (hgl : gameL g) (hg : isGameB g = true) (pl : Int) (hpl : pl = 0 ∨ pl = 1) : Pure Try.prog 202 [gameT g, .i pl] (.i 0) := by
  refine fun_spec_l22Code (by simp) ?_
  simp -implicitDefEqProofs only [go_sem, evR, ints, rows, rat, rats, c_spec_l22Code, gameT, nodes]
  have hq := isGame_t (spec_IsGame_ok g hgl)
  rw [hg] at hq
  refine CallW.pure hq [] rfl Try.call139 ?_ (by first | trivial | simp [T.noSh, T.noShL, rat]) rfl ?_
  · simp -implicitDefEqProofs only [agR, Nat.reduceLeDiff, Nat.reduceSub, vaR, go_sem, ints, rows, rat, rats, ratsO, rtR, intsO, rowsO]
  simp -implicitDefEqProofs only [go_sem, evR, ints, rows, rat, rats]
  have hq := spec_l01In_ok pl 0 1
  rw [decide_eq_true (show 0 ≤ pl ∧ pl ≤ 1 by omega)] at hq
  refine CallW.pure hq [] rfl Try.call148 ?_ (by first | trivial | simp [T.noSh, T.noShL, rat]) rfl ?_
  · simp -implicitDefEqProofs only [agR, Nat.reduceLeDiff, Nat.reduceSub, vaR, go_sem, ints, rows, rat, rats, ratsO, rtR, intsO, rowsO]
  simp -implicitDefEqProofs only [go_sem, evR, ints, rows, rat, rats]
set_option maxRecDepth 20000 in
theorem spec_CountPure_ok (g : Gm) (hgl : gameL g) (hg : isGameB g = true) (pl : Int) (hpl : pl = 0 ∨ pl = 1) : Pure Try.prog 156 [.agg [.sh 5 (chunk nodeC g.nd), .sh 1 (g.w.map ints), .sh 1 (g.v.map ints)], .i pl] (.tup [.i (cpR g pl).1, .i (cpR g pl).2]) := by
  obtain ⟨p1, p2, p3, p4, p5⟩ := isGameB_parts hg
  obtain ⟨t1, t2, t3, t4⟩ := isTreeB_spec p1
  have hsl := sets_len g pl t1.2 p2.2
  have hps := prodI_take_pos hg hpl
  refine fun_spec_CountPure (by simp) ?_
  simp -implicitDefEqProofs only [go_sem, evR, ints, rows, rat, rats, c_spec_CountPure, opR, Nat.reduceBEq]
  have hq := spec_l22Code_ok g hgl hg pl hpl
  simp only [gameT, nodes, rows] at hq
  refine CallW.pure hq [] rfl Try.call202 ?_ (by first | trivial | simp [T.noSh, T.noShL, rat]) rfl ?_
  · simp -implicitDefEqProofs only [agR, Nat.reduceLeDiff, Nat.reduceSub, vaR, go_sem, ints, rows, rat, rats, ratsO, rtR, intsO, rowsO]
  simp -implicitDefEqProofs only [go_sem, evR, ints, rows, rat, rats, bne_self_eq_false]
  have hp := spec_l22Sizes_ok g pl t1.2 p2.2
  simp only [intsO] at hp
  refine CallW.res hp [] rfl Try.call196 ?_ (.inl rfl) ?_
  · simp -implicitDefEqProofs only [agR, Nat.reduceLeDiff, Nat.reduceSub, vaR, go_sem, ints, rows, rat, rats, ratsO, rtR, intsO, rowsO]
  simp -implicitDefEqProofs only [clR, Nat.reduceLeDiff, go_sem, evR, rat]
  refine SemC.loopR (σ := Nat) (fun i => St.of [(7, .t (ints (sizesL g pl))), (8, .t (.i (prodI ((sizesL g pl).take i)))), (9, .t (.i i))] []) (fun i => i ≤ (sets g pl).length ∧ prodI ((sizesL g pl).take i) ≤ 1000000000) (fun i => (sets g pl).length - i) 0 (Weak.trans (Weak.share 18 rfl) (Weak.of _ _ [] (by simp) (by simp) ?_ ?_)) ⟨by omega, by rw [List.take_zero]; decide⟩ fun i hi R hn hr he => ?_
  · simp -implicitDefEqProofs only [ints, rows, Nat.reduceBEq, wkR, Nat.reduceEqDiff, ↓reduceIte, wrR, shareA, T.toSh, toShL_ints, List.take_zero, prodI]
  · exact trivial
  obtain ⟨hi, hb⟩ := hi
  have hp0 := hps i
  have hp1 := hps (i + 1)
  rcases Nat.lt_or_ge i (sets g pl).length with h9 | h9
  · obtain ⟨b1, b2⟩ := size_bound hg hpl h9
    have hsu := prodI_take_succ (sizesL_get h9)
    have hmb : prodI ((sizesL g pl).take i) * (sizeAt g pl i : Int) ≤ 4000000000 := by
      have := Int.mul_le_mul hb (show (sizeAt g pl i : Int) ≤ 4 by omega) (by omega) (by omega); omega
    have hbig := @prodI_big g hg pl hpl (i + 1)
    simp -implicitDefEqProofs only [go_sem, evR, ints, rows, rat, rats, sizesL_length, sizesL_get h9, decide_eq_true (show (i : Int) < ((sets g pl).length : Int) by omega), List.length_map, List.getElem?_map, Option.map_some, Option.getD_some, ← hsu, wrap64 (n := prodI ((sizesL g pl).take (i + 1))) (by omega) (by omega)]
    refine ⟨by omega, by omega, h9, fun h => hr _ ?_, fun h => hn _ (i + 1) (Weak.of _ _ [] (by simp) (by simp) ?_ ?_) ⟨by omega, by omega⟩ (by omega)⟩
    · simp -implicitDefEqProofs only [go_sem, evR, ints, rows, rat, rats]
      rw [hbig h]
    · simp -implicitDefEqProofs only [ints, rows, Nat.reduceBEq, wkR, Nat.reduceEqDiff, ↓reduceIte, wrR, next64 h9 (by omega)]
    · exact trivial
  · have hil : i = (sets g pl).length := by omega
    have hta : (sizesL g pl).take i = sizesL g pl := List.take_of_length_le (by rw [sizesL_length]; omega)
    rw [hta] at hb hp0 ⊢
    simp -implicitDefEqProofs only [go_sem, evR, ints, rows, rat, rats, sizesL_length, decide_eq_false (show ¬ (i : Int) < ((sets g pl).length : Int) by omega), List.length_map]
    refine he _ _ ?_
    simp -implicitDefEqProofs only [go_sem, evR, ints, rows, rat, rats]
    rw [cpR_small hg hpl hb]
    rfl
set_option maxRecDepth 20000 in
theorem impl_CountPure_ok (g : Gm) (hgl : gameL g) (hg : isGameB g = true) (pl : Int) (hpl : pl = 0 ∨ pl = 1) : Pure Try.prog 205 [.agg [.sh 5 (chunk nodeC g.nd), .sh 1 (g.w.map ints), .sh 1 (g.v.map ints)], .i pl] (.tup [.i (cpR g pl).1, .i (cpR g pl).2]) := by
  obtain ⟨p1, p2, p3, p4, p5⟩ := isGameB_parts hg
  obtain ⟨t1, t2, t3, t4⟩ := isTreeB_spec p1
  have hsl := sets_len g pl t1.2 p2.2
  have hps := prodI_take_pos hg hpl
  refine fun_impl_CountPure (by simp) ?_
  simp -implicitDefEqProofs only [go_sem, evR, ints, rows, rat, rats, c_impl_CountPure, opR, Nat.reduceBEq]
  have hq := isGame_t (impl_IsGame_ok g hgl)
  rw [hg] at hq
  refine CallW.pure hq [] rfl Try.call115 ?_ (by first | trivial | simp [T.noSh, T.noShL, rat]) rfl ?_
  · simp -implicitDefEqProofs only [agR, Nat.reduceLeDiff, Nat.reduceSub, vaR, go_sem, ints, rows, rat, rats, ratsO, rtR, intsO, rowsO]
  simp -implicitDefEqProofs only [go_sem, evR, ints, rows, rat, rats]
  have hq := impl_within_ok pl 0 1
  rw [decide_eq_true (show 0 ≤ pl ∧ pl ≤ 1 by omega)] at hq
  refine CallW.pure hq [] rfl Try.call110 ?_ (by first | trivial | simp [T.noSh, T.noShL, rat]) rfl ?_
  · simp -implicitDefEqProofs only [agR, Nat.reduceLeDiff, Nat.reduceSub, vaR, go_sem, ints, rows, rat, rats, ratsO, rtR, intsO, rowsO]
  simp -implicitDefEqProofs only [go_sem, evR, ints, rows, rat, rats, opR, Nat.reduceBEq]
  have hp := infoSets_t g pl t1.2 p2.2
  simp only [rowsO] at hp
  refine CallW.res hp [] rfl Try.call152 ?_ (.inl rfl) ?_
  · simp -implicitDefEqProofs only [agR, Nat.reduceLeDiff, Nat.reduceSub, vaR, go_sem, ints, rows, rat, rats, ratsO, rtR, intsO, rowsO]
  simp -implicitDefEqProofs only [clR, Nat.reduceLeDiff, go_sem, evR, rat]
  refine SemC.loopR (σ := Nat) (fun i => St.of [(2, .own 2), (6, .t (.i (prodI ((sizesL g pl).take i)))), (17, .t (rows (sets g pl))), (18, .t (.i (sets g pl).length)), (19, .t (.i i))] [(2, .box [nodes g.nd, rows g.w, rows g.v])]) (fun i => i ≤ (sets g pl).length ∧ prodI ((sizesL g pl).take i) ≤ 1000000000) (fun i => (sets g pl).length - i) 0 (Weak.trans (Weak.share 17 rfl) (Weak.of _ _ [some 2] (by simp) (by simp) ?_ ?_)) ⟨by omega, by rw [List.take_zero]; decide⟩ fun i hi R hn hr he => ?_
  · simp -implicitDefEqProofs only [ints, rows, Nat.reduceBEq, wkR, Nat.reduceEqDiff, ↓reduceIte, wrR, shareA, T.toSh, toShL_intsO, nodes, List.take_zero, prodI]
  · exact ⟨⟨_, rfl, .refl _⟩, rfl, trivial⟩
  obtain ⟨hi, hb⟩ := hi
  have hp0 := hps i
  have hp1 := hps (i + 1)
  rcases Nat.lt_or_ge i (sets g pl).length with h9 | h9
  · obtain ⟨b1, b2⟩ := size_bound hg hpl h9
    obtain ⟨a1, a2, a3, a4, a5, a6⟩ := set_parts h9
    obtain ⟨x, hx⟩ : ∃ x, g.nd[setN g pl i]? = some x := ⟨_, List.getElem?_eq_getElem a2⟩
    have hxd : g.nd.getD (setN g pl i) nd0 = x := by rw [List.getD_eq_getElem?_getD, hx]; rfl
    rw [hxd] at a5
    have hsu := prodI_take_succ (sizesL_get h9)
    have hmb : prodI ((sizesL g pl).take i) * (sizeAt g pl i : Int) ≤ 4000000000 := by
      have := Int.mul_le_mul hb (show (sizeAt g pl i : Int) ≤ 4 by omega) (by omega) (by omega); omega
    have hbig := @prodI_big g hg pl hpl (i + 1)
    simp -implicitDefEqProofs only [go_sem, evR, ints, rows, rat, rats, nodes, a1, decide_eq_true (show (i : Int) < ((sets g pl).length : Int) by omega), nd_get4 hx, ← a5, List.getElem?_cons_zero, List.getElem?_cons_succ, ← hsu, wrap64 (n := prodI ((sizesL g pl).take (i + 1))) (by omega) (by omega)]
    repeat (first | refine ⟨by omega, ?_⟩ | refine ⟨by rw [nd_len]; omega, ?_⟩)
    refine ⟨fun h => hr _ ?_, fun h => hn _ (i + 1) (Weak.of _ _ [some 2] (by simp) (by simp) ?_ ?_) ⟨by omega, by omega⟩ (by omega)⟩
    · simp -implicitDefEqProofs only [go_sem, evR, ints, rows, rat, rats]
      rw [hbig h]
    · simp -implicitDefEqProofs only [ints, rows, Nat.reduceBEq, wkR, Nat.reduceEqDiff, ↓reduceIte, wrR, nodes, next64 h9 (by omega)]
    · exact ⟨⟨_, rfl, .refl _⟩, rfl, trivial⟩
  · have hil : i = (sets g pl).length := by omega
    have hta : (sizesL g pl).take i = sizesL g pl := List.take_of_length_le (by rw [sizesL_length]; omega)
    rw [hta] at hb hp0 ⊢
    simp -implicitDefEqProofs only [go_sem, evR, ints, rows, rat, rats, nodes, decide_eq_false (show ¬ (i : Int) < ((sets g pl).length : Int) by omega)]
    refine he _ _ ?_
    simp -implicitDefEqProofs only [go_sem, evR, ints, rows, rat, rats]
    rw [cpR_small hg hpl hb]
    rfl
end
end Go.Ab

/- Functions in compact form, with hints. -/
set_option linter.unusedVariables false
namespace Go.Ab
open Go.Proofs

def c_impl_PureStrategy_h : CC :=
 (.seq (.reg [.o (.box 3 (sl 0)),
 .o (.alloc 6 [.v (.int .i64 0), .v (.slice none 0 0)]),
 .o (.move 7 (ci 0))])
 ((.seq (.reg [.o (.loadN 15 3 (sl 3)),
 .o (.move 16 (sl 1)),
 .o (.call (some 17) (cf 205) [(sl 15), (sl 16)]),
 .o (.move 14 (sl 17)),
 .o (.extract 18 (sl 14) 0),
 .o (.extract 19 (sl 14) 1),
 .o (.move 8 (sl 18)),
 .o (.move 9 (sl 19))])
 ((.seq (.seq (.reg [.o (.move 20 (sl 9)),
 .o (.bin 21 .neq (sl 20) (ci 0))])
 ((.cond (sl 21) (.seq (.reg [.o (.build 22 [.v (.int .i64 0), .v (.slice none 0 0)] [(0, 1), (1, 1)] []),
 .o (.move 23 (sl 9)),
 .o (.store 2 (sl 6) (sl 22)),
 .o (.move 7 (sl 23))])
 (.ret))
 .skip)))
 ((.seq (.seq (.reg [.o (.move 24 (sl 2)),
 .o (.move 25 (sl 8)),
 .o (.bin 26 .sub (sl 25) (ci 1)),
 .o (.call (some 27) (cf 110) [(sl 24), (ci 0), (sl 26)]),
 .o (.un 28 .not (sl 27))])
 ((.cond (sl 28) (.seq (.reg [.o (.build 29 [.v (.int .i64 0), .v (.slice none 0 0)] [(0, 1), (1, 1)] []),
 .o (.store 2 (sl 6) (sl 29)),
 .o (.move 7 (ci 2))])
 (.ret))
 .skip)))
 ((.seq (.reg [.o (.loadN 30 3 (sl 3)),
 .o (.move 31 (sl 1)),
 .o (.call (some 32) (cf 152) [(sl 30), (sl 31)]),
 .o (.move 10 (sl 32))])
 ((.seq (.reg [.o (.move 33 (sl 1)),
 .o (.move 34 (sl 10)),
 .o (.lenS 35 (sl 34)),
 .o (.make 36 [.v (.slice none 0 0)] 24 (sl 35) (sl 35)),
 .o (.build 37 [.v (.int .i64 0), .v (.slice none 0 0)] [(0, 1), (1, 1)] [(0, (sl 33)), (1, (sl 36))]),
 .o (.alloc 11 [.v (.int .i64 0), .v (.slice none 0 0)]),
 .o (.store 2 (sl 11) (sl 37))])
 ((.seq (.seq (.reg [.o (.move 38 (sl 10)),
 .o (.lenS 39 (sl 38)),
 .o (.bin 40 .sub (sl 39) (ci 1)),
 .o (.move 12 (sl 40))])
 ((.block 0 (.loop (.seq (.seq (.reg [.o (.move 41 (sl 12)),
 .o (.bin 42 .geq (sl 41) (ci 0))])
 ((.cond (sl 42) .skip
 (.exit 0))))
 ((.seq (.block 1 (.seq (.draw [] [(kR, .o (.fld 45 0 (sl 3))),
 (kR, .o (.fld 46 0 (sl 45))),
 (kR, .o (.load1 47 (sl 46))),
 (kR, .o (.move 48 (sl 10))),
 (kR, .o (.move 49 (sl 12))),
 (kR, .o (.idx 50 1 (sl 48) (sl 49))),
 (kR, .o (.load1 51 (sl 50))),
 (kR, .o (.idx 52 1 (sl 51) (ci 0))),
 (kR, .o (.load1 53 (sl 52))),
 (kR, .o (.idx 54 5 (sl 47) (sl 53))),
 (kR, .o (.fld 55 4 (sl 54))),
 (kR, .o (.load1 56 (sl 55))),
 (kR, .o (.lenS 57 (sl 56))),
 (kR, .o (.move 13 (sl 57)))])
 ((.seq (.weak (.draw [62] [(kR, .o (.fld 58 1 (sl 11))),
 (kR, .o (.load1 59 (sl 58))),
 (kR, .o (.move 60 (sl 12))),
 (kR, .o (.move 61 (sl 13))),
 (kN, .o (.make 62 [.v (.int .i64 0)] 8 (sl 61) (sl 61))),
 (kR, .o (.idx 63 1 (sl 59) (sl 60))),
 (kH, .o (.store 1 (sl 63) (sl 62)))]))
 ((.seq (.weak (.draw [] [(kR, .o (.fld 64 1 (sl 11))),
 (kR, .o (.load1 65 (sl 64))),
 (kR, .o (.move 66 (sl 12))),
 (kR, .o (.idx 67 1 (sl 65) (sl 66))),
 (kR, .o (.load1 68 (sl 67))),
 (kR, .o (.move 69 (sl 2))),
 (kR, .o (.move 70 (sl 13))),
 (kR, .o (.bin 71 .rem (sl 69) (sl 70))),
 (kR, .o (.idx 72 1 (sl 68) (sl 71))),
 (kH, .o (.store 1 (sl 72) (ci 60)))]))
 ((.reg [.o (.move 73 (sl 2)),
 .o (.move 74 (sl 13)),
 .o (.bin 75 .quo (sl 73) (sl 74)),
 .o (.move 2 (sl 75))]))))))))
 ((.reg [.o (.move 43 (sl 12)),
 .o (.bin 44 .sub (sl 43) (ci 1)),
 .o (.move 12 (sl 44))])))))))))
 ((.seq (.reg [.o (.loadN 76 2 (sl 11)),
 .o (.store 2 (sl 6) (sl 76)),
 .o (.move 7 (ci 0))])
 (.ret))))))))))))))))
theorem fun_impl_PureStrategy_h {rin : List T} {args : List A} {Q : List T → T → Prop} (ha : args.length ≤ 77) (h : cW Try.prog 77 c_impl_PureStrategy_h (retP Try.prog [.cell 6 47, .tmp 7] rin.length Q) (St.of (enum 0 args) (enum 1000000000 rin))) :
    Fun Try.prog 206 rin args Q :=
  Fun.of (H := ⟨[], [12, 13]⟩) Try.func206 rfl rfl rfl (by kernel_rfl) ha (by decide) h

end Go.Ab

/- Contracts: pure strategies by number. -/
set_option linter.unusedSimpArgs false
set_option linter.unusedVariables false
namespace Go.Ab
open Go.Proofs
def fromE {α : Type} (n k : Nat) (z : α) (F : Nat → α) : List α := (List.range n).map fun j => if n ≤ j + k then F j else z
theorem fromE_length {α : Type} (n k : Nat) (z : α) (F : Nat → α) : (fromE n k z F).length = n := by simp [fromE]
theorem fromE_get {α : Type} {n k j : Nat} {z : α} {F : Nat → α} (h : j < n) : (fromE n k z F)[j]? = some (if n ≤ j + k then F j else z) := by simp [fromE, h]
theorem fromE_zero {α : Type} (n : Nat) (z : α) (F : Nat → α) : fromE n 0 z F = List.replicate n z := by
  refine List.ext_getElem? fun j => ?_
  rcases Nat.lt_or_ge j n with h | h
  · rw [fromE_get h, if_neg (by omega), List.getElem?_replicate, if_pos h]
  · rw [List.getElem?_eq_none (by rw [fromE_length]; exact h), List.getElem?_eq_none (by rw [List.length_replicate]; exact h)]
theorem fromE_all {α : Type} (n : Nat) (z : α) (F : Nat → α) : fromE n n z F = (List.range n).map F := by
  refine List.map_congr_left fun j _ => ?_
  rw [if_pos (by omega)]
theorem fromE_set {α : Type} {n k j : Nat} {z : α} {F : Nat → α} (h : j + k + 1 = n) : (fromE n k z F).set j (F j) = fromE n (k + 1) z F := by
  refine List.ext_getElem? fun i => ?_
  rcases Nat.lt_or_ge i n with h1 | h1
  · rw [List.getElem?_set, fromE_length, fromE_get (k := k + 1) h1, fromE_get (k := k) h1]
    by_cases e : j = i
    · subst e; rw [if_pos rfl, if_pos h1, if_pos (by omega)]
    · rw [if_neg e]
      by_cases e2 : n ≤ i + k
      · rw [if_pos e2, if_pos (by omega)]
      · rw [if_neg e2, if_neg (by omega)]
  · rw [List.getElem?_eq_none (by rw [List.length_set, fromE_length]; exact h1), List.getElem?_eq_none (by rw [fromE_length]; exact h1)]
def digF (g : Gm) (pl num : Int) (k : Nat) : List Int := fromE (sets g pl).length k 0 (digA (sizesL g pl) num)
def rowF (g : Gm) (pl num : Int) (k : Nat) : List T := fromE (sets g pl).length k (.v (.slice none 0 0)) fun j => intsO (pureR g pl num j)
theorem numA_step {g : Gm} {pl num : Int} {k j : Nat} (h : j + k + 1 = (sets g pl).length) : numA (sizesL g pl) num (k + 1) = numA (sizesL g pl) num k / (sizeAt g pl j : Int) ∧ digA (sizesL g pl) num j = numA (sizesL g pl) num k % (sizeAt g pl j : Int) := by
  have hl := sizesL_length g pl
  have e1 : (sizesL g pl).length - 1 - k = j := by omega
  have e2 : (sizesL g pl).length - 1 - j = k := by omega
  rw [numA, digA, e1, e2, sizesL_getD (show j < (sets g pl).length by omega)]
  exact ⟨rfl, rfl⟩
theorem pureM_take {g : Gm} {pl num : Int} {i : Nat} (h : i < (sets g pl).length) : (pureM g pl num).take (i + 1) = (pureM g pl num).take i ++ [pureR g pl num i] := take_snoc (pureM_get h)
theorem digA_nat {g : Gm} (hg : isGameB g = true) {pl : Int} (hpl : pl = 0 ∨ pl = 1) (num : Int) {i : Nat} (h : i < (sets g pl).length) : ∃ d : Nat, digA (sizesL g pl) num i = d ∧ d < sizeAt g pl i := by
  obtain ⟨d1, d2⟩ := digA_bound (num := num) (fun x hx => (sizes_ok hg hpl x hx).1) (show i < (sizesL g pl).length by rw [sizesL_length]; exact h)
  rw [sizesL_getD h] at d2
  exact ⟨_, (Int.toNat_of_nonneg d1).symm, by omega⟩
section
attribute [-go_sem] load1C load1V fldC lenC idxC loadNV nilCheckW
set_option maxRecDepth 20000 in
theorem spec_l22Pure_ok (g : Gm) (hg : isGameB g = true) (pl : Int) (hpl : pl = 0 ∨ pl = 1) (num : Int) : Fun Try.prog 203 [] [.t (.i pl), .t (ints (sizesL g pl)), .t (ints ((List.range (sets g pl).length).map (digA (sizesL g pl) num)))] fun o r => o = [] ∧ r = .agg [.i pl, .arr 1 ((pureM g pl num).map intsO)] := by
  obtain ⟨p1, p2, p3, p4, p5⟩ := isGameB_parts hg
  obtain ⟨t1, t2, t3, t4⟩ := isTreeB_spec p1
  have hsl := sets_len g pl t1.2 p2.2
  have hdg : ∀ i, i < (sets g pl).length → ((List.range (sets g pl).length).map (digA (sizesL g pl) num))[i]? = some (digA (sizesL g pl) num i) := fun i h => by simp [h]
  have hdl : ((List.range (sets g pl).length).map (digA (sizesL g pl) num)).length = (sets g pl).length := by simp
  generalize (List.range (sets g pl).length).map (digA (sizesL g pl) num) = D at hdg hdl ⊢
  refine fun_spec_l22Pure (by simp) ?_
  simp -implicitDefEqProofs only [go_sem, evR, ints, rows, rat, rats, c_spec_l22Pure]
  refine SemC.loopR (σ := Nat) (fun i => St.of [(0, .t (.i pl)), (1, .t (ints (sizesL g pl))), (2, .t (ints D)), (6, .own 6), (7, .own 96), (8, .t (.i i))] [(6, .box [.i 0, .v (.slice none 0 0)]), (96, rowsO ((pureM g pl num).take i))]) (fun i => i ≤ (sets g pl).length) (fun i => (sets g pl).length - i) 0 (Weak.of _ _ [some 6, some 10] (by simp) (by simp) ?_ ?_) (by simp) fun i hi R hn hr he => ?_
  · simp -implicitDefEqProofs only [ints, rows, Nat.reduceBEq, wkR, Nat.reduceEqDiff, ↓reduceIte, wrR]
  · exact ⟨⟨_, rfl, .refl _⟩, rfl, ⟨_, rfl, .refl _⟩, rfl, trivial⟩
  rcases Nat.lt_or_ge i (sets g pl).length with h9 | h9
  · obtain ⟨b1, b2⟩ := size_bound hg hpl h9
    obtain ⟨d, hd1, hd2⟩ := digA_nat hg hpl num h9
    have hD := hdg i h9
    rw [hd1] at hD
    have hlt : ((pureM g pl num).take i).length = i := by rw [List.length_take, pureM_length]; omega
    simp -implicitDefEqProofs only [go_sem, evR, ints, rows, rat, rats, rowsO, sizesL_length, sizesL_get h9, hD, hdl, hlt, made_one, List.length_map, List.getElem?_map, Option.map_some, Option.getD_some, List.length_replicate, decide_eq_true (show (i : Int) < ((sets g pl).length : Int) by omega)]
    repeat (first | refine ⟨by omega, ?_⟩ | refine ⟨by rw [nd_len]; omega, ?_⟩)
    refine hn _ (i + 1) (Weak.of _ _ [some 6, some 31] (by simp) (by simp) ?_ ?_) (by omega) (by omega)
    · simp -implicitDefEqProofs only [ints, rows, Nat.reduceBEq, wkR, Nat.reduceEqDiff, ↓reduceIte, wrR, next64 h9 (by omega)]
    · refine ⟨⟨_, rfl, .refl _⟩, rfl, ⟨_, rfl, ?_⟩, rfl, trivial⟩
      rw [pureM_take h9, rowsO, List.map_append, List.map_cons, List.map_nil, pureR, pureL, hd1, Int.toNat_natCast, intsO, List.map_set, List.map_replicate]; exact .refl _
  · simp -implicitDefEqProofs only [go_sem, evR, ints, rows, rat, rats, rowsO, sizesL_length, List.length_map, decide_eq_false (show ¬ (i : Int) < ((sets g pl).length : Int) by omega), opR, Nat.reduceBEq]
    refine he _ _ ?_
    simp -implicitDefEqProofs only [go_sem, evR, ints, rows, rat, rats, rowsO, opR, Nat.reduceBEq]
    rw [List.take_of_length_le (by rw [pureM_length]; exact h9)]
set_option maxRecDepth 20000 in
theorem spec_PureStrategy_ok (g : Gm) (hgl : gameL g) (hg : isGameB g = true) (pl : Int) (hpl : pl = 0 ∨ pl = 1) (num : Int) (h0 : 0 ≤ num) (h1 : num < nPure g pl) (hb : nPure g pl ≤ 1000000000) : Fun Try.prog 159 [] [.t (.agg [.sh 5 (chunk nodeC g.nd), .sh 1 (g.w.map ints), .sh 1 (g.v.map ints)]), .t (.i pl), .t (.i num)] fun o r => o = [] ∧ r = .tup [.agg [.i pl, .arr 1 ((pureM g pl num).map intsO)], .i 0] := by
  obtain ⟨p1, p2, p3, p4, p5⟩ := isGameB_parts hg
  obtain ⟨t1, t2, t3, t4⟩ := isTreeB_spec p1
  have hsl := sets_len g pl t1.2 p2.2
  have hll := sizesL_length g pl
  refine fun_spec_PureStrategy (by simp) ?_
  simp -implicitDefEqProofs only [go_sem, evR, ints, rows, rat, rats, c_spec_PureStrategy, opR, Nat.reduceBEq]
  have hq := spec_CountPure_ok g hgl hg pl hpl
  rw [cpR_small hg hpl hb] at hq
  refine CallW.pure hq [] rfl Try.call156 ?_ (by first | trivial | simp [T.noSh, T.noShL, rat]) rfl ?_
  · simp -implicitDefEqProofs only [agR, Nat.reduceLeDiff, Nat.reduceSub, vaR, go_sem, ints, rows, rat, rats, ratsO, rtR, intsO, rowsO]
  simp -implicitDefEqProofs only [go_sem, evR, ints, rows, rat, rats, beq_self_eq_true, wrap64 (n := nPure g pl - 1) (by omega) (by omega)]
  have hq := spec_l01In_ok num 0 (nPure g pl - 1)
  rw [decide_eq_true (show 0 ≤ num ∧ num ≤ nPure g pl - 1 by omega)] at hq
  refine CallW.pure hq [] rfl Try.call148 ?_ (by first | trivial | simp [T.noSh, T.noShL, rat]) rfl ?_
  · simp -implicitDefEqProofs only [agR, Nat.reduceLeDiff, Nat.reduceSub, vaR, go_sem, ints, rows, rat, rats, ratsO, rtR, intsO, rowsO]
  simp -implicitDefEqProofs only [go_sem, evR, ints, rows, rat, rats, bne_self_eq_false, opR, Nat.reduceBEq]
  have hp := spec_l22Sizes_ok g pl t1.2 p2.2
  simp only [intsO] at hp
  refine CallW.res hp [] rfl Try.call196 ?_ (.inl rfl) ?_
  · simp -implicitDefEqProofs only [agR, Nat.reduceLeDiff, Nat.reduceSub, vaR, go_sem, ints, rows, rat, rats, ratsO, rtR, intsO, rowsO]
  simp -implicitDefEqProofs only [clR, Nat.reduceLeDiff, go_sem, evR, rat, List.length_map, hll, made_one]
  have hwl : IntKind.i64.wrap (((sets g pl).length : Int) - 1) = ((sets g pl).length : Int) - 1 := wrap64 (by omega) (by omega)
  refine ⟨by omega, by omega, ?_⟩
  refine SemC.loopR (σ := Nat) (fun k => St.of [(1, .t (.i pl)), (2, .t (.i (numA (sizesL g pl) num k))), (6, .own 6), (10, .t (ints (sizesL g pl))), (11, .own 97), (12, .t (.i (((sets g pl).length : Int) - 1 - k)))] [(6, .box [.i 0, .v (.slice none 0 0)]), (97, intsO (digF g pl num k))]) (fun k => k ≤ (sets g pl).length) (fun k => (sets g pl).length - k) 0 (Weak.trans (Weak.share 34 rfl) (Weak.of _ _ [some 6, some 37] (by simp) (by simp) ?_ ?_)) (by omega) fun k hk R hn hr he => ?_
  · simp -implicitDefEqProofs only [ints, rows, Nat.reduceBEq, wkR, Nat.reduceEqDiff, ↓reduceIte, wrR, shareA, T.toSh, toShL_ints, hwl, numA, Int.natCast_zero, Int.cast_ofNat_Int, Int.sub_zero]
  · refine ⟨⟨_, rfl, .refl _⟩, rfl, ⟨_, rfl, ?_⟩, rfl, trivial⟩
    rw [digF, fromE_zero, intsO, List.map_replicate]; exact .refl _
  have hdl : (digF g pl num k).length = (sets g pl).length := fromE_length _ _ _ _
  rcases Nat.lt_or_ge k (sets g pl).length with h9 | h9
  · obtain ⟨j, hj⟩ : ∃ j : Nat, j + k + 1 = (sets g pl).length := ⟨(sets g pl).length - 1 - k, by omega⟩
    have hji : ((sets g pl).length : Int) - 1 - k = (j : Int) := by omega
    have hjl : j < (sets g pl).length := by omega
    obtain ⟨b1, b2⟩ := size_bound hg hpl hjl
    obtain ⟨n1, n2⟩ := numA_step (num := num) hj
    obtain ⟨m1, m2⟩ := numA_nonneg (fun x hx => (sizes_ok hg hpl x hx).1) h0 k (by omega)
    have hset : (digF g pl num k).set j (digA (sizesL g pl) num j) = digF g pl num (k + 1) := fromE_set hj
    rw [hji]
    simp -implicitDefEqProofs only [go_sem, evR, ints, rows, rat, rats, rowsO, intsO, hll, sizesL_get hjl, hdl, List.length_map, List.getElem?_map, Option.map_some, Option.getD_some, decide_eq_true (show (j : Int) ≥ 0 by omega)]
    repeat (first | refine ⟨by omega, ?_⟩ | refine ⟨by rw [nd_len]; omega, ?_⟩)
    have hq2 : (numA (sizesL g pl) num k).tmod (sizeAt g pl j : Int) = digA (sizesL g pl) num j := by rw [n2, Int.tmod_eq_emod_of_nonneg m1]
    have hq3 : IntKind.i64.wrap ((numA (sizesL g pl) num k).tdiv (sizeAt g pl j : Int)) = numA (sizesL g pl) num (k + 1) := by
      rw [n1, Int.tdiv_eq_ediv_of_nonneg m1]
      have := Int.ediv_le_self (sizeAt g pl j : Int) m1
      have := Int.ediv_nonneg m1 (show 0 ≤ (sizeAt g pl j : Int) by omega)
      exact wrap64 (by omega) (by omega)
    refine hn _ (k + 1) (Weak.of _ _ [some 6, some 97] (by simp) (by simp) ?_ ?_) (by omega) (by omega)
    · simp -implicitDefEqProofs only [ints, rows, Nat.reduceBEq, wkR, Nat.reduceEqDiff, ↓reduceIte, wrR, hq2, hq3, wrap64 (n := (j : Int) - 1) (by omega) (by omega), show ((sets g pl).length : Int) - 1 - ((k + 1 : Nat) : Int) = (j : Int) - 1 by omega]
    · refine ⟨⟨_, rfl, .refl _⟩, rfl, ⟨_, rfl, ?_⟩, rfl, trivial⟩
      rw [← hset, intsO, List.map_set, hq2]; exact .refl _
  · have hkl : k = (sets g pl).length := by omega
    rw [show digF g pl num k = digF g pl num (sets g pl).length by rw [hkl]]
    simp -implicitDefEqProofs only [go_sem, evR, ints, rows, rat, rats, intsO, decide_eq_false (show ¬ (((sets g pl).length : Int) - 1 - k) ≥ 0 by omega)]
    refine he _ _ ?_
    simp -implicitDefEqProofs only [go_sem, evR, ints, rows, rat, rats]
    have hp := spec_l22Pure_ok g hg pl hpl num
    rw [show (List.range (sets g pl).length).map (digA (sizesL g pl) num) = digF g pl num (sets g pl).length from (fromE_all _ _ _).symm] at hp
    simp only [ints] at hp
    refine CallW.res hp [97] rfl Try.call203 ?_ (.inr ⟨trivial, rowsO_noSh _, trivial⟩) ?_
    · simp -implicitDefEqProofs only [agR, Nat.reduceLeDiff, Nat.reduceSub, vaR, go_sem, ints, rows, rat, rats, ratsO, rtR, intsO, rowsO]
    simp -implicitDefEqProofs only [clR, Nat.reduceLeDiff, go_sem, evR, rat, ints, intsO, rowsO, opR, Nat.reduceBEq]
set_option maxRecDepth 20000 in
theorem impl_PureStrategy_ok (g : Gm) (hgl : gameL g) (hg : isGameB g = true) (pl : Int) (hpl : pl = 0 ∨ pl = 1) (num : Int) (h0 : 0 ≤ num) (h1 : num < nPure g pl) (hb : nPure g pl ≤ 1000000000) : Fun Try.prog 206 [] [.t (.agg [.sh 5 (chunk nodeC g.nd), .sh 1 (g.w.map ints), .sh 1 (g.v.map ints)]), .t (.i pl), .t (.i num)] fun o r => o = [] ∧ r = .tup [.agg [.i pl, .arr 1 ((pureM g pl num).map intsO)], .i 0] := by
  obtain ⟨p1, p2, p3, p4, p5⟩ := isGameB_parts hg
  obtain ⟨t1, t2, t3, t4⟩ := isTreeB_spec p1
  have hsl := sets_len g pl t1.2 p2.2
  have hll := sizesL_length g pl
  refine fun_impl_PureStrategy_h (by simp) ?_
  simp -implicitDefEqProofs only [go_sem, evR, ints, rows, rat, rats, c_impl_PureStrategy_h, opR, Nat.reduceBEq]
  have hq := impl_CountPure_ok g hgl hg pl hpl
  rw [cpR_small hg hpl hb] at hq
  refine CallW.pure hq [] rfl Try.call205 ?_ (by first | trivial | simp [T.noSh, T.noShL, rat]) rfl ?_
  · simp -implicitDefEqProofs only [agR, Nat.reduceLeDiff, Nat.reduceSub, vaR, go_sem, ints, rows, rat, rats, ratsO, rtR, intsO, rowsO]
  simp -implicitDefEqProofs only [go_sem, evR, ints, rows, rat, rats, bne_self_eq_false, wrap64 (n := nPure g pl - 1) (by omega) (by omega)]
  have hq := impl_within_ok num 0 (nPure g pl - 1)
  rw [decide_eq_true (show 0 ≤ num ∧ num ≤ nPure g pl - 1 by omega)] at hq
  refine CallW.pure hq [] rfl Try.call110 ?_ (by first | trivial | simp [T.noSh, T.noShL, rat]) rfl ?_
  · simp -implicitDefEqProofs only [agR, Nat.reduceLeDiff, Nat.reduceSub, vaR, go_sem, ints, rows, rat, rats, ratsO, rtR, intsO, rowsO]
  simp -implicitDefEqProofs only [go_sem, evR, ints, rows, rat, rats, bne_self_eq_false, opR, Nat.reduceBEq]
  have hp := infoSets_t g pl t1.2 p2.2
  simp only [rowsO] at hp
  refine CallW.res hp [] rfl Try.call152 ?_ (.inl rfl) ?_
  · simp -implicitDefEqProofs only [agR, Nat.reduceLeDiff, Nat.reduceSub, vaR, go_sem, ints, rows, rat, rats, ratsO, rtR, intsO, rowsO]
  simp -implicitDefEqProofs only [clR, Nat.reduceLeDiff, go_sem, evR, rat, List.length_map, made_one, opR, Nat.reduceBEq]
  have hwl : IntKind.i64.wrap (((sets g pl).length : Int) - 1) = ((sets g pl).length : Int) - 1 := wrap64 (by omega) (by omega)
  refine ⟨by omega, by omega, ?_⟩
  refine SemC.loopR (σ := Nat) (fun k => St.of [(2, .t (.i (numA (sizesL g pl) num k))), (3, .own 3), (6, .own 6), (10, .t (rows (sets g pl))), (11, .own 11), (12, .t (.i (((sets g pl).length : Int) - 1 - k)))] [(3, .box [nodes g.nd, rows g.w, rows g.v]), (6, .box [.i 0, .v (.slice none 0 0)]), (11, .box [.i pl, .arr 1 (rowF g pl num k)])]) (fun k => k ≤ (sets g pl).length) (fun k => (sets g pl).length - k) 0 (Weak.trans (Weak.share 32 rfl) (Weak.of _ _ [some 3, some 6, some 11] (by simp) (by simp) ?_ ?_)) (by omega) fun k hk R hn hr he => ?_
  · simp -implicitDefEqProofs only [ints, rows, Nat.reduceBEq, wkR, Nat.reduceEqDiff, ↓reduceIte, wrR, shareA, T.toSh, toShL_intsO, hwl, numA, nodes, Int.natCast_zero, Int.cast_ofNat_Int, Int.sub_zero]
  · refine ⟨⟨_, rfl, .refl _⟩, rfl, ⟨_, rfl, .refl _⟩, rfl, ⟨_, rfl, ?_⟩, rfl, trivial⟩
    rw [rowF, fromE_zero]; exact .refl _
  have hdl : (rowF g pl num k).length = (sets g pl).length := fromE_length _ _ _ _
  rcases Nat.lt_or_ge k (sets g pl).length with h9 | h9
  · obtain ⟨j, hj⟩ : ∃ j : Nat, j + k + 1 = (sets g pl).length := ⟨(sets g pl).length - 1 - k, by omega⟩
    have hji : ((sets g pl).length : Int) - 1 - k = (j : Int) := by omega
    have hjl : j < (sets g pl).length := by omega
    obtain ⟨b1, b2⟩ := size_bound hg hpl hjl
    obtain ⟨n1, n2⟩ := numA_step (num := num) hj
    obtain ⟨m1, m2⟩ := numA_nonneg (fun x hx => (sizes_ok hg hpl x hx).1) h0 k (by omega)
    have hset : (rowF g pl num k).set j (intsO (pureR g pl num j)) = rowF g pl num (k + 1) := fromE_set hj
    have hq2 : (numA (sizesL g pl) num k).tmod (sizeAt g pl j : Int) = digA (sizesL g pl) num j := by rw [n2, Int.tmod_eq_emod_of_nonneg m1]
    have hq3 : IntKind.i64.wrap ((numA (sizesL g pl) num k).tdiv (sizeAt g pl j : Int)) = numA (sizesL g pl) num (k + 1) := by
      rw [n1, Int.tdiv_eq_ediv_of_nonneg m1]
      have := Int.ediv_le_self (sizeAt g pl j : Int) m1
      have := Int.ediv_nonneg m1 (show 0 ≤ (sizeAt g pl j : Int) by omega)
      exact wrap64 (by omega) (by omega)
    obtain ⟨d, hd1, hd2⟩ := digA_nat hg hpl num hjl
    obtain ⟨a1, a2, a3, a4, a5, a6⟩ := set_parts hjl
    obtain ⟨x, hx⟩ : ∃ x, g.nd[setN g pl j]? = some x := ⟨_, List.getElem?_eq_getElem a2⟩
    have hxd : g.nd.getD (setN g pl j) nd0 = x := by rw [List.getD_eq_getElem?_getD, hx]; rfl
    rw [hxd] at a5
    rw [hji]
    simp -implicitDefEqProofs only [go_sem, evR, ints, rows, rat, rats, nodes, a1, nd_get4 hx, ← a5, List.getElem?_cons_zero, List.getElem?_cons_succ, List.length_map, List.getElem?_map, Option.map_some, Option.getD_some, decide_eq_true (show (j : Int) ≥ 0 by omega), opR, Nat.reduceBEq]
    repeat (first | refine ⟨by omega, ?_⟩ | refine ⟨by rw [nd_len]; omega, ?_⟩)
    refine ⟨_, Weak.open 11 1 501 rfl rfl rfl (by decide) rfl, ?_⟩
    simp -implicitDefEqProofs only [go_sem, evR, ints, rows, rat, rats, hdl, made_one, opR, Nat.reduceBEq]
    repeat (first | refine ⟨by omega, ?_⟩ | refine ⟨by rw [nd_len]; omega, ?_⟩)
    have hc1 : ((rowF g pl num k).set j (T.arr 1 (List.replicate (sizeAt g pl j) (T.v (.int .i64 0)))))[j]? = some (T.arr 1 (List.replicate (sizeAt g pl j) (T.v (.int .i64 0)))) := List.getElem?_set_self (by omega)
    have hc3 : ((rowF g pl num k).set j T.any)[j]? = some T.any := List.getElem?_set_self (by omega)
    refine ⟨_, Weak.open 501 j 502 rfl hc1 rfl (by decide) rfl, ?_⟩
    simp -implicitDefEqProofs only [go_sem, evR, ints, rows, rat, rats, hdl, hc1, hc3, hq2, hd1, List.length_set, List.length_replicate, opR, Nat.reduceBEq]
    repeat (first | refine ⟨by omega, ?_⟩ | refine ⟨by rw [nd_len]; omega, ?_⟩)
    refine hn _ (k + 1) (Weak.trans (Weak.close1 501 j 502 rfl rfl (by decide) hc3) (Weak.trans (Weak.close1 11 1 501 rfl rfl (by decide) rfl) (Weak.of _ _ [some 3, some 6, some 11] (by simp) (by simp) ?_ ?_))) (by omega) (by omega)
    · simp -implicitDefEqProofs only [ints, rows, Nat.reduceBEq, wkR, Nat.reduceEqDiff, ↓reduceIte, wrR, nodes, hq3, wrap64 (n := (j : Int) - 1) (by omega) (by omega), show ((sets g pl).length : Int) - 1 - ((k + 1 : Nat) : Int) = (j : Int) - 1 by omega]
    · refine ⟨⟨_, rfl, .refl _⟩, rfl, ⟨_, rfl, .refl _⟩, rfl, ⟨_, rfl, ?_⟩, rfl, trivial⟩
      rw [← hset, pureR, pureL, hd1, Int.toNat_natCast, intsO, List.map_set, List.map_replicate, List.set_set]
      exact .refl _
  · have hkl : k = (sets g pl).length := by omega
    rw [show rowF g pl num k = rowF g pl num (sets g pl).length by rw [hkl], show rowF g pl num (sets g pl).length = (pureM g pl num).map intsO by rw [rowF, fromE_all, pureM, List.map_map]; rfl]
    simp -implicitDefEqProofs only [go_sem, evR, ints, rows, rat, rats, nodes, decide_eq_false (show ¬ (((sets g pl).length : Int) - 1 - k) ≥ 0 by omega), opR, Nat.reduceBEq]
    refine he _ _ ?_
    simp -implicitDefEqProofs only [go_sem, evR, ints, rows, rat, rats, opR, Nat.reduceBEq]
end
end Go.Ab

/- Contracts: tables of pure strategies. -/
set_option linter.unusedSimpArgs false
set_option linter.unusedVariables false
namespace Go.Ab
open Go.Proofs
def psO (g : Gm) (pl : Int) (i : Nat) : List T := [.i pl, rowsO (pureM g pl i)]
def psS (g : Gm) (pl : Int) (i : Nat) : List T := [.i pl, rows (pureM g pl i)]
theorem psO_len (g : Gm) (pl : Int) (i : Nat) : (psO g pl i).length = 2 := rfl
theorem psS_len (g : Gm) (pl : Int) (i : Nat) : (psS g pl i).length = 2 := rfl
theorem toShL_ps (g : Gm) (pl : Int) (l : List Nat) : T.toShL (chunk (psO g pl) l) = chunk (psS g pl) l := by
  induction l with
  | nil => rfl
  | cons x l ih =>
    rw [chunk_cons, chunk_cons, T.toShL_eq_map, List.map_append, ← T.toShL_eq_map (chunk (psO g pl) l), ih]
    congr 1
    show [T.i pl, (rowsO (pureM g pl x)).toSh] = _
    rw [rowsO_toSh]; rfl
section
attribute [-go_sem] load1C load1V fldC lenC idxC loadNV nilCheckW
theorem impl_CountPure_bad (g : Gm) (hgl : gameL g) (hg : isGameB g = false) (pl : Int) : Pure Try.prog 205 [.agg [.sh 5 (chunk nodeC g.nd), .sh 1 (g.w.map ints), .sh 1 (g.v.map ints)], .i pl] (.tup [.i 0, .i 1]) := by
  refine fun_impl_CountPure (by simp) ?_
  simp -implicitDefEqProofs only [go_sem, evR, ints, rows, rat, rats, c_impl_CountPure, opR, Nat.reduceBEq]
  have hq := isGame_t (impl_IsGame_ok g hgl)
  rw [hg] at hq
  refine CallW.pure hq [] rfl Try.call115 ?_ (by first | trivial | simp [T.noSh, T.noShL, rat]) rfl ?_
  · simp -implicitDefEqProofs only [agR, Nat.reduceLeDiff, Nat.reduceSub, vaR, go_sem, ints, rows, rat, rats, ratsO, rtR, intsO, rowsO]
  simp -implicitDefEqProofs only [go_sem, evR, ints, rows, rat, rats]
theorem impl_pureStrategies_bad (g : Gm) (hgl : gameL g) (hg : isGameB g = false) (pl : Int) : Pure Try.prog 162 [.agg [.sh 5 (chunk nodeC g.nd), .sh 1 (g.w.map ints), .sh 1 (g.v.map ints)], .i pl] (.tup [.v (.slice none 0 0), .i 1]) := by
  refine fun_impl_pureStrategies (by simp) ?_
  simp -implicitDefEqProofs only [go_sem, evR, ints, rows, rat, rats, c_impl_pureStrategies, opR, Nat.reduceBEq]
  refine CallW.pure (impl_CountPure_bad g hgl hg pl) [] rfl Try.call205 ?_ (by first | trivial | simp [T.noSh, T.noShL, rat]) rfl ?_
  · simp -implicitDefEqProofs only [agR, Nat.reduceLeDiff, Nat.reduceSub, vaR, go_sem, ints, rows, rat, rats, ratsO, rtR, intsO, rowsO]
  simp -implicitDefEqProofs only [go_sem, evR, ints, rows, rat, rats]
  exact ⟨fun h => absurd h (by decide), fun _ => ⟨fun _ => trivial, fun h => absurd h (by decide)⟩⟩
theorem impl_pureStrategies_big (g : Gm) (hgl : gameL g) (hg : isGameB g = true) (pl : Int) (hpl : pl = 0 ∨ pl = 1) (hb : 16 < nPure g pl) : Pure Try.prog 162 [.agg [.sh 5 (chunk nodeC g.nd), .sh 1 (g.w.map ints), .sh 1 (g.v.map ints)], .i pl] (.tup [.v (.slice none 0 0), .i 3]) := by
  have hq := impl_CountPure_ok g hgl hg pl hpl
  refine fun_impl_pureStrategies (by simp) ?_
  simp -implicitDefEqProofs only [go_sem, evR, ints, rows, rat, rats, c_impl_pureStrategies, opR, Nat.reduceBEq]
  by_cases h9 : nPure g pl ≤ 1000000000
  · rw [cpR_small hg hpl h9] at hq
    refine CallW.pure hq [] rfl Try.call205 ?_ (by first | trivial | simp [T.noSh, T.noShL, rat]) rfl ?_
    · simp -implicitDefEqProofs only [agR, Nat.reduceLeDiff, Nat.reduceSub, vaR, go_sem, ints, rows, rat, rats, ratsO, rtR, intsO, rowsO]
    simp -implicitDefEqProofs only [go_sem, evR, ints, rows, rat, rats, beq_self_eq_true, decide_eq_true (show nPure g pl > 16 by omega)]
    exact ⟨fun _ => ⟨fun _ => trivial, fun h => absurd h (by decide)⟩, fun h => absurd (show nPure g pl > 16 by omega) h⟩
  · rw [show cpR g pl = (0, 3) by rw [cpR, if_pos hg, if_pos (by omega), if_neg h9]] at hq
    refine CallW.pure hq [] rfl Try.call205 ?_ (by first | trivial | simp [T.noSh, T.noShL, rat]) rfl ?_
    · simp -implicitDefEqProofs only [agR, Nat.reduceLeDiff, Nat.reduceSub, vaR, go_sem, ints, rows, rat, rats, ratsO, rtR, intsO, rowsO]
    simp -implicitDefEqProofs only [go_sem, evR, ints, rows, rat, rats]
    refine ⟨fun h => absurd h (by decide), fun _ => ⟨fun _ => trivial, fun h => absurd h (by decide)⟩⟩
set_option maxRecDepth 20000 in
theorem impl_pureStrategies_ok (g : Gm) (hgl : gameL g) (hg : isGameB g = true) (pl : Int) (hpl : pl = 0 ∨ pl = 1) (hb : nPure g pl ≤ 16) : Fun Try.prog 162 [] [.t (.agg [.sh 5 (chunk nodeC g.nd), .sh 1 (g.w.map ints), .sh 1 (g.v.map ints)]), .t (.i pl)] fun o r => o = [] ∧ r = .tup [.arr 2 (chunk (psO g pl) (List.range (nPure g pl).toNat)), .i 0] := by
  have h1 := nPure_pos hg hpl
  refine fun_impl_pureStrategies (by simp) ?_
  simp -implicitDefEqProofs only [go_sem, evR, ints, rows, rat, rats, c_impl_pureStrategies, opR, Nat.reduceBEq]
  have hq := impl_CountPure_ok g hgl hg pl hpl
  rw [cpR_small hg hpl (by omega)] at hq
  refine CallW.pure hq [] rfl Try.call205 ?_ (by first | trivial | simp [T.noSh, T.noShL, rat]) rfl ?_
  · simp -implicitDefEqProofs only [agR, Nat.reduceLeDiff, Nat.reduceSub, vaR, go_sem, ints, rows, rat, rats, ratsO, rtR, intsO, rowsO]
  simp -implicitDefEqProofs only [go_sem, evR, ints, rows, rat, rats, beq_self_eq_true, bne_self_eq_false, decide_eq_false (show ¬ nPure g pl > 16 by omega)]
  obtain ⟨n, hn⟩ : ∃ n : Nat, nPure g pl = n := ⟨_, (Int.toNat_of_nonneg (by omega)).symm⟩
  rw [hn] at h1 hb ⊢
  refine ⟨fun h => absurd h (by omega), fun _ => ?_⟩
  rw [Int.toNat_natCast]
  refine SemC.loopR (σ := Nat) (fun k => St.of [(1, .t (.i pl)), (2, .own 2), (8, .own 98), (27, .t (.i n)), (28, .t (.i k))] [(2, .box [nodes g.nd, rows g.w, rows g.v]), (98, .arr 2 (chunk (psO g pl) (List.range k)))]) (fun k => k ≤ n) (fun k => n - k) 0 (Weak.of _ _ [some 2, none] (by simp) (by simp) ?_ ?_) (by omega) fun k hk R hn1 hr he => ?_
  · simp -implicitDefEqProofs only [ints, rows, Nat.reduceBEq, wkR, Nat.reduceEqDiff, ↓reduceIte, wrR, nodes]
  · exact ⟨⟨_, rfl, .refl _⟩, rfl, ⟨2, rfl⟩, trivial⟩
  rcases Nat.lt_or_ge k n with h9 | h9
  · have hlc : (chunk (psO g pl) (List.range k)).length = k * 2 := by rw [chunk_length (psO_len g pl), List.length_range]
    simp -implicitDefEqProofs only [go_sem, evR, ints, rows, rat, rats, nodes, decide_eq_true (show (k : Int) < (n : Int) by omega), opR, Nat.reduceBEq]
    have hp := impl_PureStrategy_ok g hgl hg pl hpl k (by omega) (by omega) (by omega)
    refine CallW.res hp [] rfl Try.call206 ?_ (.inl rfl) ?_
    · simp -implicitDefEqProofs only [agR, Nat.reduceLeDiff, Nat.reduceSub, vaR, go_sem, ints, rows, rat, rats, ratsO, rtR, intsO, rowsO]
    simp -implicitDefEqProofs only [clR, Nat.reduceLeDiff, go_sem, evR, rat, opR, Nat.reduceBEq]
    refine ⟨by rw [hlc]; omega, hn1 _ (k + 1) (Weak.of _ _ [some 2, some 41] (by simp) (by simp) ?_ ?_) (by omega) (by omega)⟩
    · simp -implicitDefEqProofs only [ints, rows, Nat.reduceBEq, wkR, Nat.reduceEqDiff, ↓reduceIte, wrR, nodes, next64 h9 (by omega)]
    · refine ⟨⟨_, rfl, .refl _⟩, rfl, ⟨_, rfl, ?_⟩, rfl, trivial⟩
      rw [List.range_succ, chunk_append, chunk_cons, chunk_nil, List.append_nil, psO, rowsO]; exact .refl _
  · rw [show k = n by omega]
    simp -implicitDefEqProofs only [go_sem, evR, ints, rows, rat, rats, nodes, decide_eq_false (show ¬ (n : Int) < (n : Int) by omega), opR, Nat.reduceBEq]
    refine he _ _ ?_
    simp -implicitDefEqProofs only [go_sem, evR, ints, rows, rat, rats, opR, Nat.reduceBEq]
theorem tabM_take {g : Gm} {i n m : Nat} (h0 : nPure g 0 = n) (h1 : nPure g 1 = m) (h : i < n) : (tabM g).take (i + 1) = (tabM g).take i ++ [tabRow g m i] := take_snoc (by rw [tabM, h0, h1, Int.toNat_natCast, Int.toNat_natCast, List.getElem?_map, List.getElem?_range h]; rfl)
theorem tabM_len {g : Gm} {n : Nat} (h0 : nPure g 0 = n) : (tabM g).length = n := by rw [tabM, List.length_map, List.length_range, h0, Int.toNat_natCast]
theorem tabRow_len (g : Gm) (m i : Nat) : (tabRow g m i).length = m := by rw [tabRow, List.length_map, List.length_range]
theorem tabRow_take {g : Gm} {m i k : Nat} (h : k < m) : (tabRow g m i).take (k + 1) = (tabRow g m i).take k ++ [tabE g i k] := take_snoc (by rw [tabRow, List.getElem?_map, List.getElem?_range h]; rfl)
set_option maxRecDepth 20000 in
set_option maxHeartbeats 1000000 in
theorem impl_tableOf_ok (g : Gm) (hgl : gameL g) (hg : isGameB g = true) (hb0 : nPure g 0 ≤ 16) (hb1 : nPure g 1 ≤ 16) : Fun Try.prog 100 [] [.t (.agg [.sh 5 (chunk nodeC g.nd), .sh 1 (g.w.map ints), .sh 1 (g.v.map ints)])] fun o r => o = [] ∧ r = .tup [rowsO (tabM g), .i 0] := by
  obtain ⟨p1, p2, p3, p4, p5⟩ := isGameB_parts hg
  obtain ⟨t1, t2, t3, t4⟩ := isTreeB_spec p1
  obtain ⟨g1, g2, g3, g4, g5, g6, g7⟩ := game_unit hg
  have hdep := dep_t (impl_depthFrom_ok t2 (by omega) g.nd.length 0 (by omega) (by omega) (by omega))
  rw [g2] at hdep
  have hpw := pw_pos (dpt g)
  have n0 := nPure_pos hg ((.inl rfl) : (0 : Int) = 0 ∨ (0 : Int) = 1)
  have n1 := nPure_pos hg ((.inr rfl) : (1 : Int) = 0 ∨ (1 : Int) = 1)
  have hq0 := impl_pureStrategies_ok g hgl hg 0 (.inl rfl) hb0
  have hq1 := impl_pureStrategies_ok g hgl hg 1 (.inr rfl) hb1
  obtain ⟨n, hn0⟩ : ∃ n : Nat, nPure g 0 = n := ⟨_, (Int.toNat_of_nonneg (by omega)).symm⟩
  obtain ⟨m, hm0⟩ : ∃ n : Nat, nPure g 1 = n := ⟨_, (Int.toNat_of_nonneg (by omega)).symm⟩
  rw [hn0] at hq0 hb0 n0
  rw [hm0] at hq1 hb1 n1
  rw [Int.toNat_natCast] at hq0 hq1
  have hl0 : (chunk (psS g 0) (List.range n)).length = n * 2 := by rw [chunk_length (psS_len g 0), List.length_range]
  have hl1 : (chunk (psS g 1) (List.range m)).length = m * 2 := by rw [chunk_length (psS_len g 1), List.length_range]
  have ha0 : ∀ i, i < n → ((chunk (psS g 0) (List.range n)).drop (i * 2)).take 2 = psS g 0 i := fun i h => chunk_at (psS_len g 0) (List.getElem?_range h)
  have ha1 : ∀ i, i < m → ((chunk (psS g 1) (List.range m)).drop (i * 2)).take 2 = psS g 1 i := fun i h => chunk_at (psS_len g 1) (List.getElem?_range h)
  have hs0 := toShL_ps g 0 (List.range n)
  have hs1 := toShL_ps g 1 (List.range m)
  refine fun_impl_tableOf (by simp) ?_
  simp -implicitDefEqProofs only [go_sem, evR, ints, rows, rat, rats, c_impl_tableOf, opR, Nat.reduceBEq]
  refine CallW.res hq0 [] rfl Try.call162 ?_ (.inl rfl) ?_
  · simp -implicitDefEqProofs only [agR, Nat.reduceLeDiff, Nat.reduceSub, vaR, go_sem, ints, rows, rat, rats, ratsO, rtR, intsO, rowsO]
  simp -implicitDefEqProofs only [clR, Nat.reduceLeDiff, go_sem, evR, rat, bne_self_eq_false, opR, Nat.reduceBEq]
  refine CallW.res hq1 [] rfl Try.call162 ?_ (.inl rfl) ?_
  · simp -implicitDefEqProofs only [agR, Nat.reduceLeDiff, Nat.reduceSub, vaR, go_sem, ints, rows, rat, rats, ratsO, rtR, intsO, rowsO]
  simp -implicitDefEqProofs only [clR, Nat.reduceLeDiff, go_sem, evR, rat, bne_self_eq_false, opR, Nat.reduceBEq]
  refine CallW.pure hdep [] rfl Try.call164 ?_ (by first | trivial | simp [T.noSh, T.noShL, rat]) rfl ?_
  · simp -implicitDefEqProofs only [agR, Nat.reduceLeDiff, Nat.reduceSub, vaR, go_sem, ints, rows, rat, rats, ratsO, rtR, intsO, rowsO]
  simp -implicitDefEqProofs only [go_sem, evR, ints, rows, rat, rats]
  refine CallW.pure (impl_powerOf_ok (dpt g) (by omega)) [] rfl Try.call163 ?_ (by first | trivial | simp [T.noSh, T.noShL, rat]) rfl ?_
  · simp -implicitDefEqProofs only [agR, Nat.reduceLeDiff, Nat.reduceSub, vaR, go_sem, ints, rows, rat, rats, ratsO, rtR, intsO, rowsO]
  simp -implicitDefEqProofs only [go_sem, evR, ints, rows, rat, rats]
  have hd0 : (chunk (psO g 0) (List.range n)).length / 2 = n := by rw [chunk_div (psO_len g 0) (by decide), List.length_range]
  have hd1 : (chunk (psS g 1) (List.range m)).length / 2 = m := by rw [chunk_div (psS_len g 1) (by decide), List.length_range]
  refine SemC.loopR (σ := Nat) (fun i => St.of [(1, .own 1), (6, .t (.sh 2 (chunk (psS g 1) (List.range m)))), (7, .t (.i (pw (dpt g)))), (8, .own 98), (34, .t (.sh 2 (chunk (psS g 0) (List.range n)))), (35, .t (.i n)), (36, .t (.i i))] [(1, .box [nodes g.nd, rows g.w, rows g.v]), (98, rowsO ((tabM g).take i))]) (fun i => i ≤ n) (fun i => n - i) 0 (Weak.trans (Weak.share 16 rfl) (Weak.trans (Weak.share 24 rfl) (Weak.of _ _ [some 1, none] (by simp) (by simp) ?_ ?_))) (by omega) fun i hi R hn hr he => ?_
  · simp -implicitDefEqProofs only [ints, rows, Nat.reduceBEq, wkR, Nat.reduceEqDiff, ↓reduceIte, wrR, shareA, T.toSh, hs0, hs1, nodes, hd0]
  · exact ⟨⟨_, rfl, .refl _⟩, rfl, ⟨1, rfl⟩, trivial⟩
  rcases Nat.lt_or_ge i n with h9 | h9
  · simp -implicitDefEqProofs only [go_sem, evR, ints, rows, rat, rats, nodes, decide_eq_true (show (i : Int) < (n : Int) by omega), hl0, ha0 i h9, hd1, psS, opR, Nat.reduceBEq]
    repeat (first | refine ⟨by omega, ?_⟩ | refine ⟨by rw [nd_len]; omega, ?_⟩)
    refine SemC.loopR (σ := Nat) (fun k => St.of [(1, .own 1), (6, .t (.sh 2 (chunk (psS g 1) (List.range m)))), (7, .t (.i (pw (dpt g)))), (8, .own 98), (10, .t (.pin [.i 0, rows (pureM g 0 i)] 0)), (11, .own 99), (34, .t (.sh 2 (chunk (psS g 0) (List.range n)))), (35, .t (.i n)), (36, .t (.i i)), (40, .t (.sh 2 (chunk (psS g 1) (List.range m)))), (41, .t (.i m)), (42, .t (.i k))] [(1, .box [nodes g.nd, rows g.w, rows g.v]), (98, rowsO ((tabM g).take i)), (99, intsO ((tabRow g m i).take k))]) (fun k => k ≤ m) (fun k => m - k) 0 (Weak.trans (Weak.share 10 rfl) (Weak.of _ _ [some 1, some 98, none] (by simp) (by simp) ?_ ?_)) (by omega) fun k hk R2 hn2 hr2 he2 => ?_
    · simp -implicitDefEqProofs only [ints, rows, Nat.reduceBEq, wkR, Nat.reduceEqDiff, ↓reduceIte, wrR, shareA, T.toSh, T.toShL, nodes]
    · exact ⟨⟨_, rfl, .refl _⟩, rfl, ⟨_, rfl, .refl _⟩, rfl, ⟨1, rfl⟩, trivial⟩
    rcases Nat.lt_or_ge k m with h8 | h8
    · have hga := vb_t (impl_gameNumber_ok (s := (0, pureM g 0 i)) (t := (1, pureM g 1 k)) hg (pureM_parts hg (.inl rfl) i) (pureM_parts hg (.inr rfl) k))
      have hta := tabE_abs hg i k
      have hte : (gnum g (pureM g 0 i) (pureM g 1 k)).tdiv (pw (dpt g)) = tabE g i k := rfl
      have hltr : ((tabRow g m i).take k).length = k := by rw [List.length_take, tabRow_len]; omega
      simp -implicitDefEqProofs only [go_sem, evR, ints, rows, rat, rats, nodes, intsO, decide_eq_true (show (k : Int) < (m : Int) by omega), hl1, ha1 k h8, psS, opR, Nat.reduceBEq]
      repeat (first | refine ⟨by omega, ?_⟩ | refine ⟨by rw [nd_len]; omega, ?_⟩)
      refine CallW.pure hga [] rfl Try.call121 ?_ (by first | trivial | simp [T.noSh, T.noShL, rat]) rfl ?_
      · simp -implicitDefEqProofs only [agR, Nat.reduceLeDiff, Nat.reduceSub, vaR, go_sem, ints, rows, rat, rats, ratsO, rtR, intsO, rowsO]
      simp -implicitDefEqProofs only [go_sem, evR, ints, rows, rat, rats, hte, wrap64 (n := tabE g i k) (by omega) (by omega), List.length_map, hltr, opR, Nat.reduceBEq]
      refine ⟨by omega, by omega, hn2 _ (k + 1) (Weak.of _ _ [some 1, some 98, some 54] (by simp) (by simp) ?_ ?_) (by omega) (by omega)⟩
      · simp -implicitDefEqProofs only [ints, rows, Nat.reduceBEq, wkR, Nat.reduceEqDiff, ↓reduceIte, wrR, nodes, next64 h8 (by omega)]
      · refine ⟨⟨_, rfl, .refl _⟩, rfl, ⟨_, rfl, .refl _⟩, rfl, ⟨_, rfl, ?_⟩, rfl, trivial⟩
        rw [tabRow_take h8, intsO, List.map_append]; exact .refl _
    · rw [show k = m by omega, List.take_of_length_le (show (tabRow g m i).length ≤ m by rw [tabRow_len]; omega)]
      simp -implicitDefEqProofs only [go_sem, evR, ints, rows, rat, rats, nodes, rowsO, decide_eq_false (show ¬ (m : Int) < (m : Int) by omega), opR, Nat.reduceBEq]
      refine he2 _ _ ?_
      have hltm : ((tabM g).take i).length = i := by rw [List.length_take, tabM_len hn0]; omega
      simp -implicitDefEqProofs only [go_sem, evR, ints, rows, rat, rats, rowsO, intsO, List.length_map, hltm, opR, Nat.reduceBEq]
      refine ⟨by omega, hn _ (i + 1) (Weak.of _ _ [some 1, some 59] (by simp) (by simp) ?_ ?_) (by omega) (by omega)⟩
      · simp -implicitDefEqProofs only [ints, rows, Nat.reduceBEq, wkR, Nat.reduceEqDiff, ↓reduceIte, wrR, nodes, next64 h9 (by omega)]
      · refine ⟨⟨_, rfl, .refl _⟩, rfl, ⟨_, rfl, ?_⟩, rfl, trivial⟩
        rw [tabM_take hn0 hm0 h9, rowsO, List.map_append, List.map_cons, List.map_nil, intsO]; exact .refl _
  · rw [show i = n by omega]
    simp -implicitDefEqProofs only [go_sem, evR, ints, rows, rat, rats, nodes, rowsO, decide_eq_false (show ¬ (n : Int) < (n : Int) by omega), opR, Nat.reduceBEq]
    refine he _ _ ?_
    simp -implicitDefEqProofs only [go_sem, evR, ints, rows, rat, rats, rowsO, opR, Nat.reduceBEq]
    rw [List.take_of_length_le (by rw [tabM_len hn0]; omega)]
theorem impl_tableOf_bad (g : Gm) (hgl : gameL g) (hg : isGameB g = false) : Pure Try.prog 100 [.agg [.sh 5 (chunk nodeC g.nd), .sh 1 (g.w.map ints), .sh 1 (g.v.map ints)]] (.tup [.v (.slice none 0 0), .i 1]) := by
  refine fun_impl_tableOf (by simp) ?_
  simp -implicitDefEqProofs only [go_sem, evR, ints, rows, rat, rats, c_impl_tableOf, opR, Nat.reduceBEq]
  refine CallW.pure (impl_pureStrategies_bad g hgl hg 0) [] rfl Try.call162 ?_ (by first | trivial | simp [T.noSh, T.noShL, rat]) rfl ?_
  · simp -implicitDefEqProofs only [agR, Nat.reduceLeDiff, Nat.reduceSub, vaR, go_sem, ints, rows, rat, rats, ratsO, rtR, intsO, rowsO]
  simp -implicitDefEqProofs only [go_sem, evR, ints, rows, rat, rats]
  exact ⟨fun _ => trivial, fun h => absurd h (by decide)⟩
theorem impl_tableOf_big (g : Gm) (hgl : gameL g) (hg : isGameB g = true) (hb : ¬ (nPure g 0 ≤ 16 ∧ nPure g 1 ≤ 16)) : Pure Try.prog 100 [.agg [.sh 5 (chunk nodeC g.nd), .sh 1 (g.w.map ints), .sh 1 (g.v.map ints)]] (.tup [.v (.slice none 0 0), .i 3]) := by
  refine fun_impl_tableOf (by simp) ?_
  simp -implicitDefEqProofs only [go_sem, evR, ints, rows, rat, rats, c_impl_tableOf, opR, Nat.reduceBEq]
  by_cases h0 : nPure g 0 ≤ 16
  · have hq0 := impl_pureStrategies_ok g hgl hg 0 (.inl rfl) h0
    refine CallW.res hq0 [] rfl Try.call162 ?_ (.inl rfl) ?_
    · simp -implicitDefEqProofs only [agR, Nat.reduceLeDiff, Nat.reduceSub, vaR, go_sem, ints, rows, rat, rats, ratsO, rtR, intsO, rowsO]
    simp -implicitDefEqProofs only [clR, Nat.reduceLeDiff, go_sem, evR, rat, bne_self_eq_false, opR, Nat.reduceBEq]
    refine CallW.pure (impl_pureStrategies_big g hgl hg 1 (.inr rfl) (by omega)) [] rfl Try.call162 ?_ (by first | trivial | simp [T.noSh, T.noShL, rat]) rfl ?_
    · simp -implicitDefEqProofs only [agR, Nat.reduceLeDiff, Nat.reduceSub, vaR, go_sem, ints, rows, rat, rats, ratsO, rtR, intsO, rowsO]
    simp -implicitDefEqProofs only [go_sem, evR, ints, rows, rat, rats]
    exact ⟨fun _ => trivial, fun h => absurd h (by decide)⟩
  · refine CallW.pure (impl_pureStrategies_big g hgl hg 0 (.inl rfl) (by omega)) [] rfl Try.call162 ?_ (by first | trivial | simp [T.noSh, T.noShL, rat]) rfl ?_
    · simp -implicitDefEqProofs only [agR, Nat.reduceLeDiff, Nat.reduceSub, vaR, go_sem, ints, rows, rat, rats, ratsO, rtR, intsO, rowsO]
    simp -implicitDefEqProofs only [go_sem, evR, ints, rows, rat, rats]
    exact ⟨fun _ => trivial, fun h => absurd h (by decide)⟩
theorem cpR_le {g : Gm} (hg : isGameB g = true) {pl : Int} (hpl : pl = 0 ∨ pl = 1) (h : ((cpR g pl).2 != 0) = false) (h2 : ¬ (cpR g pl).1 > 16) : nPure g pl ≤ 16 := by
  by_cases e : nPure g pl ≤ 1000000000
  · rw [cpR_small hg hpl e] at h2; simp only [] at h2; omega
  · rw [show cpR g pl = (0, 3) by rw [cpR, if_pos hg, if_pos (by omega), if_neg e]] at h; simp at h
theorem tabR_bad {g : Gm} (hg : isGameB g = false) : tabR g = ([], 1) := by rw [tabR, hg]; rfl
theorem tabR_big {g : Gm} (hg : isGameB g = true) (hb : ¬ (nPure g 0 ≤ 16 ∧ nPure g 1 ≤ 16)) : tabR g = ([], 3) := by rw [tabR, if_pos hg, if_neg hb]
theorem tabR_ok {g : Gm} (hg : isGameB g = true) (hb : nPure g 0 ≤ 16 ∧ nPure g 1 ≤ 16) : tabR g = (tabM g, 0) := by rw [tabR, if_pos hg, if_pos hb]
theorem spec_l28Table_bad (g : Gm) (hgl : gameL g) (hg : isGameB g = false) : Pure Try.prog 97 [.agg [.sh 5 (chunk nodeC g.nd), .sh 1 (g.w.map ints), .sh 1 (g.v.map ints)]] (.tup [.v (.slice none 0 0), .i 1]) := by
  refine fun_spec_l28Table (by simp) ?_
  simp -implicitDefEqProofs only [go_sem, evR, ints, rows, rat, rats, c_spec_l28Table, opR, Nat.reduceBEq]
  have hq := isGame_t (spec_IsGame_ok g hgl)
  rw [hg] at hq
  refine CallW.pure hq [] rfl Try.call139 ?_ (by first | trivial | simp [T.noSh, T.noShL, rat]) rfl ?_
  · simp -implicitDefEqProofs only [agR, Nat.reduceLeDiff, Nat.reduceSub, vaR, go_sem, ints, rows, rat, rats, ratsO, rtR, intsO, rowsO]
  simp -implicitDefEqProofs only [go_sem, evR, ints, rows, rat, rats]
theorem spec_l28Table_big (g : Gm) (hgl : gameL g) (hg : isGameB g = true) (hb : ¬ (nPure g 0 ≤ 16 ∧ nPure g 1 ≤ 16)) : Pure Try.prog 97 [.agg [.sh 5 (chunk nodeC g.nd), .sh 1 (g.w.map ints), .sh 1 (g.v.map ints)]] (.tup [.v (.slice none 0 0), .i 3]) := by
  refine fun_spec_l28Table (by simp) ?_
  simp -implicitDefEqProofs only [go_sem, evR, ints, rows, rat, rats, c_spec_l28Table, opR, Nat.reduceBEq]
  have hq := isGame_t (spec_IsGame_ok g hgl)
  rw [hg] at hq
  refine CallW.pure hq [] rfl Try.call139 ?_ (by first | trivial | simp [T.noSh, T.noShL, rat]) rfl ?_
  · simp -implicitDefEqProofs only [agR, Nat.reduceLeDiff, Nat.reduceSub, vaR, go_sem, ints, rows, rat, rats, ratsO, rtR, intsO, rowsO]
  simp -implicitDefEqProofs only [go_sem, evR, ints, rows, rat, rats, opR, Nat.reduceBEq]
  have hq0 := spec_CountPure_ok g hgl hg 0 (.inl rfl)
  have hq1 := spec_CountPure_ok g hgl hg 1 (.inr rfl)
  refine CallW.pure hq0 [] rfl Try.call156 ?_ (by first | trivial | simp [T.noSh, T.noShL, rat]) rfl ?_
  · simp -implicitDefEqProofs only [agR, Nat.reduceLeDiff, Nat.reduceSub, vaR, go_sem, ints, rows, rat, rats, ratsO, rtR, intsO, rowsO]
  simp -implicitDefEqProofs only [go_sem, evR, ints, rows, rat, rats, opR, Nat.reduceBEq]
  refine CallW.pure hq1 [] rfl Try.call156 ?_ (by first | trivial | simp [T.noSh, T.noShL, rat]) rfl ?_
  · simp -implicitDefEqProofs only [agR, Nat.reduceLeDiff, Nat.reduceSub, vaR, go_sem, ints, rows, rat, rats, ratsO, rtR, intsO, rowsO]
  simp -implicitDefEqProofs only [go_sem, evR, ints, rows, rat, rats, opR, Nat.reduceBEq]
  refine ⟨fun a => ⟨fun b => ⟨fun c => ⟨fun _ => trivial, fun d => absurd ⟨cpR_le hg (.inl rfl) a c, cpR_le hg (.inr rfl) b d⟩ hb⟩, fun _ => trivial⟩, fun _ => trivial⟩, fun _ => trivial⟩
set_option maxRecDepth 20000 in
set_option maxHeartbeats 1000000 in
theorem spec_l28Table_ok (g : Gm) (hgl : gameL g) (hg : isGameB g = true) (hb0 : nPure g 0 ≤ 16) (hb1 : nPure g 1 ≤ 16) : Fun Try.prog 97 [] [.t (.agg [.sh 5 (chunk nodeC g.nd), .sh 1 (g.w.map ints), .sh 1 (g.v.map ints)])] fun o r => o = [] ∧ r = .tup [rowsO (tabM g), .i 0] := by
  obtain ⟨p1, p2, p3, p4, p5⟩ := isGameB_parts hg
  obtain ⟨t1, t2, t3, t4⟩ := isTreeB_spec p1
  obtain ⟨g1, g2, g3, g4, g5, g6, g7⟩ := game_unit hg
  have hdep := dep_t (spec_l20Depth_ok t2 (by omega) g.nd.length 0 (by omega) (by omega) (by omega))
  rw [g2] at hdep
  have hpw := pw_pos (dpt g)
  have n0 := nPure_pos hg ((.inl rfl) : (0 : Int) = 0 ∨ (0 : Int) = 1)
  have n1 := nPure_pos hg ((.inr rfl) : (1 : Int) = 0 ∨ (1 : Int) = 1)
  have hq0 := spec_CountPure_ok g hgl hg 0 (.inl rfl)
  have hq1 := spec_CountPure_ok g hgl hg 1 (.inr rfl)
  rw [cpR_small hg (.inl rfl) (by omega)] at hq0
  rw [cpR_small hg (.inr rfl) (by omega)] at hq1
  obtain ⟨n, hn0⟩ : ∃ n : Nat, nPure g 0 = n := ⟨_, (Int.toNat_of_nonneg (by omega)).symm⟩
  obtain ⟨m, hm0⟩ : ∃ n : Nat, nPure g 1 = n := ⟨_, (Int.toNat_of_nonneg (by omega)).symm⟩
  rw [hn0] at hq0 hb0 n0
  rw [hm0] at hq1 hb1 n1
  refine fun_spec_l28Table (by simp) ?_
  simp -implicitDefEqProofs only [go_sem, evR, ints, rows, rat, rats, c_spec_l28Table, opR, Nat.reduceBEq]
  have hq := isGame_t (spec_IsGame_ok g hgl)
  rw [hg] at hq
  refine CallW.pure hq [] rfl Try.call139 ?_ (by first | trivial | simp [T.noSh, T.noShL, rat]) rfl ?_
  · simp -implicitDefEqProofs only [agR, Nat.reduceLeDiff, Nat.reduceSub, vaR, go_sem, ints, rows, rat, rats, ratsO, rtR, intsO, rowsO]
  simp -implicitDefEqProofs only [go_sem, evR, ints, rows, rat, rats, opR, Nat.reduceBEq]
  refine CallW.pure hq0 [] rfl Try.call156 ?_ (by first | trivial | simp [T.noSh, T.noShL, rat]) rfl ?_
  · simp -implicitDefEqProofs only [agR, Nat.reduceLeDiff, Nat.reduceSub, vaR, go_sem, ints, rows, rat, rats, ratsO, rtR, intsO, rowsO]
  simp -implicitDefEqProofs only [go_sem, evR, ints, rows, rat, rats, opR, Nat.reduceBEq]
  refine CallW.pure hq1 [] rfl Try.call156 ?_ (by first | trivial | simp [T.noSh, T.noShL, rat]) rfl ?_
  · simp -implicitDefEqProofs only [agR, Nat.reduceLeDiff, Nat.reduceSub, vaR, go_sem, ints, rows, rat, rats, ratsO, rtR, intsO, rowsO]
  simp -implicitDefEqProofs only [go_sem, evR, ints, rows, rat, rats, bne_self_eq_false, decide_eq_false (show ¬ (n : Int) > 16 by omega), decide_eq_false (show ¬ (m : Int) > 16 by omega), opR, Nat.reduceBEq]
  refine ⟨fun h => absurd h (by omega), fun _ => ?_⟩
  refine CallW.pure hdep [] rfl Try.call158 ?_ (by first | trivial | simp [T.noSh, T.noShL, rat]) rfl ?_
  · simp -implicitDefEqProofs only [agR, Nat.reduceLeDiff, Nat.reduceSub, vaR, go_sem, ints, rows, rat, rats, ratsO, rtR, intsO, rowsO]
  simp -implicitDefEqProofs only [go_sem, evR, ints, rows, rat, rats]
  refine CallW.pure (spec_l23Power_ok (dpt g) (by omega)) [] rfl Try.call157 ?_ (by first | trivial | simp [T.noSh, T.noShL, rat]) rfl ?_
  · simp -implicitDefEqProofs only [agR, Nat.reduceLeDiff, Nat.reduceSub, vaR, go_sem, ints, rows, rat, rats, ratsO, rtR, intsO, rowsO]
  simp -implicitDefEqProofs only [go_sem, evR, ints, rows, rat, rats]
  refine SemC.loopR (σ := Nat) (fun i => St.of [(1, .own 1), (4, .t (.i n)), (6, .t (.i m)), (8, .t (.i (pw (dpt g)))), (9, .own 98), (10, .t (.i i))] [(1, .box [nodes g.nd, rows g.w, rows g.v]), (98, rowsO ((tabM g).take i))]) (fun i => i ≤ n) (fun i => n - i) 0 (Weak.of _ _ [some 1, some 48] (by simp) (by simp) ?_ ?_) (by omega) fun i hi R hn hr he => ?_
  · simp -implicitDefEqProofs only [ints, rows, Nat.reduceBEq, wkR, Nat.reduceEqDiff, ↓reduceIte, wrR, nodes]
  · exact ⟨⟨_, rfl, .refl _⟩, rfl, ⟨_, rfl, .refl _⟩, rfl, trivial⟩
  rcases Nat.lt_or_ge i n with h9 | h9
  · have hp := spec_PureStrategy_ok g hgl hg 0 (.inl rfl) i (by omega) (by omega) (by omega)
    simp -implicitDefEqProofs only [go_sem, evR, ints, rows, rat, rats, nodes, decide_eq_true (show (i : Int) < (n : Int) by omega), opR, Nat.reduceBEq]
    refine CallW.res hp [] rfl Try.call159 ?_ (.inl rfl) ?_
    · simp -implicitDefEqProofs only [agR, Nat.reduceLeDiff, Nat.reduceSub, vaR, go_sem, ints, rows, rat, rats, ratsO, rtR, intsO, rowsO]
    simp -implicitDefEqProofs only [clR, Nat.reduceLeDiff, go_sem, evR, rat, opR, Nat.reduceBEq]
    refine SemC.loopR (σ := Nat) (fun k => St.of [(1, .own 1), (4, .t (.i n)), (6, .t (.i m)), (8, .t (.i (pw (dpt g)))), (9, .own 98), (10, .t (.i i)), (11, .t (.pin [.i 0, rows (pureM g 0 i)] 0)), (13, .own 99), (14, .t (.i k))] [(1, .box [nodes g.nd, rows g.w, rows g.v]), (98, rowsO ((tabM g).take i)), (99, intsO ((tabRow g m i).take k))]) (fun k => k ≤ m) (fun k => m - k) 0 (Weak.trans (Weak.share 11 rfl) (Weak.of _ _ [some 1, some 98, some 60] (by simp) (by simp) ?_ ?_)) (by omega) fun k hk R2 hn2 hr2 he2 => ?_
    · simp -implicitDefEqProofs only [ints, rows, Nat.reduceBEq, wkR, Nat.reduceEqDiff, ↓reduceIte, wrR, shareA, T.toSh, T.toShL, toShL_intsO, nodes]
    · exact ⟨⟨_, rfl, .refl _⟩, rfl, ⟨_, rfl, .refl _⟩, rfl, ⟨_, rfl, .refl _⟩, rfl, trivial⟩
    rcases Nat.lt_or_ge k m with h8 | h8
    · have hga := vb_t (spec_l23Number_ok (s := (0, pureM g 0 i)) (t := (1, pureM g 1 k)) hg (pureM_parts hg (.inl rfl) i) (pureM_parts hg (.inr rfl) k))
      have hta := tabE_abs hg i k
      have hte : (gnum g (pureM g 0 i) (pureM g 1 k)).tdiv (pw (dpt g)) = tabE g i k := rfl
      have hltr : ((tabRow g m i).take k).length = k := by rw [List.length_take, tabRow_len]; omega
      have hp := spec_PureStrategy_ok g hgl hg 1 (.inr rfl) k (by omega) (by omega) (by omega)
      simp -implicitDefEqProofs only [go_sem, evR, ints, rows, rat, rats, nodes, intsO, decide_eq_true (show (k : Int) < (m : Int) by omega), opR, Nat.reduceBEq]
      refine CallW.res hp [] rfl Try.call159 ?_ (.inl rfl) ?_
      · simp -implicitDefEqProofs only [agR, Nat.reduceLeDiff, Nat.reduceSub, vaR, go_sem, ints, rows, rat, rats, ratsO, rtR, intsO, rowsO]
      simp -implicitDefEqProofs only [clR, Nat.reduceLeDiff, go_sem, evR, rat, opR, Nat.reduceBEq]
      refine CallW.pure hga [76002] rfl Try.call125 ?_ (by first | trivial | simp [T.noSh, T.noShL, rat]) rfl ?_
      · simp -implicitDefEqProofs only [agR, Nat.reduceLeDiff, Nat.reduceSub, vaR, go_sem, ints, rows, rat, rats, ratsO, rtR, intsO, rowsO]
      simp -implicitDefEqProofs only [go_sem, evR, ints, rows, rat, rats, hte, wrap64 (n := tabE g i k) (by omega) (by omega), List.length_map, hltr, opR, Nat.reduceBEq]
      refine ⟨by omega, by omega, hn2 _ (k + 1) (Weak.of _ _ [some 1, some 98, some 80] (by simp) (by simp) ?_ ?_) (by omega) (by omega)⟩
      · simp -implicitDefEqProofs only [ints, rows, Nat.reduceBEq, wkR, Nat.reduceEqDiff, ↓reduceIte, wrR, nodes, next64 h8 (by omega)]
      · refine ⟨⟨_, rfl, .refl _⟩, rfl, ⟨_, rfl, .refl _⟩, rfl, ⟨_, rfl, ?_⟩, rfl, trivial⟩
        rw [tabRow_take h8, intsO, List.map_append]; exact .refl _
    · rw [show k = m by omega, List.take_of_length_le (show (tabRow g m i).length ≤ m by rw [tabRow_len]; omega)]
      simp -implicitDefEqProofs only [go_sem, evR, ints, rows, rat, rats, nodes, rowsO, decide_eq_false (show ¬ (m : Int) < (m : Int) by omega), opR, Nat.reduceBEq]
      refine he2 _ _ ?_
      have hltm : ((tabM g).take i).length = i := by rw [List.length_take, tabM_len hn0]; omega
      simp -implicitDefEqProofs only [go_sem, evR, ints, rows, rat, rats, rowsO, intsO, List.length_map, hltm, opR, Nat.reduceBEq]
      refine ⟨by omega, hn _ (i + 1) (Weak.of _ _ [some 1, some 84] (by simp) (by simp) ?_ ?_) (by omega) (by omega)⟩
      · simp -implicitDefEqProofs only [ints, rows, Nat.reduceBEq, wkR, Nat.reduceEqDiff, ↓reduceIte, wrR, nodes, next64 h9 (by omega)]
      · refine ⟨⟨_, rfl, .refl _⟩, rfl, ⟨_, rfl, ?_⟩, rfl, trivial⟩
        rw [tabM_take hn0 hm0 h9, rowsO, List.map_append, List.map_cons, List.map_nil, intsO]; exact .refl _
  · rw [show i = n by omega]
    simp -implicitDefEqProofs only [go_sem, evR, ints, rows, rat, rats, nodes, rowsO, decide_eq_false (show ¬ (n : Int) < (n : Int) by omega), opR, Nat.reduceBEq]
    refine he _ _ ?_
    simp -implicitDefEqProofs only [go_sem, evR, ints, rows, rat, rats, rowsO, opR, Nat.reduceBEq]
    rw [List.take_of_length_le (by rw [tabM_len hn0]; omega)]
end
end Go.Ab

/- Contracts: bounds and equilibria of pure strategies. -/
set_option linter.unusedSimpArgs false
set_option linter.unusedVariables false
namespace Go.Ab
open Go.Proofs
def peR (g : Gm) : Int × Int × Int := if (tabR g).2 = 0 then saddle (tabM g) (nPure g 1).toNat else (0, 0, (tabR g).2)
theorem min_step {l : List Int} {k : Nat} {x : Int} (h : l[k]? = some x) : min (minL (l.take (max k 1))) x = minL (l.take (k + 1)) := by
  rcases Nat.eq_zero_or_pos k with rfl | hk
  · cases l with
    | nil => simp at h
    | cons y l => simp at h; subst h; simp [minL]
  · rw [Nat.max_eq_left hk, take_snoc h, minL_snoc]
    have := (List.getElem?_eq_some_iff.1 h).1
    exact fun e => by have := congrArg List.length e; rw [List.length_take, List.length_nil] at this; omega
theorem max_step {l : List Int} {k : Nat} {x : Int} (h : l[k]? = some x) : max (maxL (l.take (max k 1))) x = maxL (l.take (k + 1)) := by
  rcases Nat.eq_zero_or_pos k with rfl | hk
  · cases l with
    | nil => simp at h
    | cons y l => simp at h; subst h; simp [maxL]
  · rw [Nat.max_eq_left hk, take_snoc h, maxL_snoc]
    have := (List.getElem?_eq_some_iff.1 h).1
    exact fun e => by have := congrArg List.length e; rw [List.length_take, List.length_nil] at this; omega
theorem take_one {l : List Int} {x : Int} (h : l[0]? = some x) : minL (l.take (max 0 1)) = x ∧ maxL (l.take (max 0 1)) = x := by
  cases l with
  | nil => simp at h
  | cons y l => simp at h; subst h; simp [minL, maxL]
theorem max_succ (k : Nat) : max (k + 1) 1 = k + 1 := by omega
theorem take_all1 {l : List Int} {k : Nat} (h : l.length = k) (h1 : 1 ≤ k) : l.take (max k 1) = l := List.take_of_length_le (by omega)
def cmA (m : List (List Int)) (c i : Nat) : List Int := (List.range c).map fun k => maxL ((colOf m k).take (max i 1))
theorem cmA_length (m : List (List Int)) (c i : Nat) : (cmA m c i).length = c := by simp [cmA]
theorem cmA_get {m : List (List Int)} {c i k : Nat} (h : k < c) : (cmA m c i)[k]? = some (maxL ((colOf m k).take (max i 1))) := by simp [cmA, h]
theorem colOf_get {m : List (List Int)} {i k : Nat} {r : List Int} {x : Int} (h : m[i]? = some r) (h' : r[k]? = some x) : (colOf m k)[i]? = some x := by
  rw [colOf, List.getElem?_map, h, Option.map_some, List.getD_eq_getElem?_getD, h']; rfl
theorem colOf_len (m : List (List Int)) (k : Nat) : (colOf m k).length = m.length := by simp [colOf]
theorem cmA_zero {m : List (List Int)} {c : Nat} {r : List Int} (hr : rect m c) (h : m[0]? = some r) : cmA m c 0 = r := by
  have hl := hr r (List.mem_of_getElem? h)
  refine List.ext_getElem? fun k => ?_
  rcases Nat.lt_or_ge k c with hk | hk
  · rw [cmA_get hk, List.getElem?_eq_getElem (by omega), (take_one (colOf_get h (List.getElem?_eq_getElem (by omega)))).2]
  · rw [List.getElem?_eq_none (by rw [cmA_length]; exact hk), List.getElem?_eq_none (by omega)]
theorem cmA_all {m : List (List Int)} {c : Nat} (h1 : 1 ≤ m.length) : cmA m c m.length = (tr m c).map maxL := by
  rw [cmA, tr, List.map_map]
  refine List.map_congr_left fun k _ => ?_
  rw [take_all1 (colOf_len m k) h1]; rfl
theorem cmA_next {m : List (List Int)} {c i k : Nat} {r : List Int} {x : Int} (hk : k < c) (h : m[i]? = some r) (h' : r[k]? = some x) : (cmA m c (i + 1))[k]? = some (max (maxL ((colOf m k).take (max i 1))) x) := by
  rw [cmA_get hk, max_succ, max_step (colOf_get h h')]
section
attribute [-go_sem] load1C load1V fldC lenC idxC loadNV nilCheckW
set_option maxRecDepth 20000 in
theorem spec_l28Extremes_ok (m : List (List Int)) (c : Nat) (h1 : 1 ≤ m.length) (h2 : m.length ≤ 16) (hc1 : 1 ≤ c) (hc2 : c ≤ 16) (hr : rect m c) : Fun Try.prog 103 [] [.t (rows m)] fun o r => o = [] ∧ r = .tup [intsO (m.map minL), intsO ((tr m c).map maxL)] := by
  obtain ⟨r0, h0⟩ : ∃ r, m[0]? = some r := ⟨_, List.getElem?_eq_getElem (by omega)⟩
  have hl0 := hr r0 (List.mem_of_getElem? h0)
  have hrl : (m.map minL).length = m.length := by simp
  refine fun_spec_l28Extremes (by simp) ?_
  simp -implicitDefEqProofs only [go_sem, evR, ints, rows, rat, rats, c_spec_l28Extremes, List.getElem?_map, h0, Option.map_some, Option.getD_some, List.length_map]
  refine ⟨by omega, by omega, ?_⟩
  have hp := spec_l01Own_ok r0 (by omega)
  simp only [intsO, ints] at hp
  refine CallW.res hp [] rfl Try.call167 ?_ (.inl rfl) ?_
  · simp -implicitDefEqProofs only [agR, Nat.reduceLeDiff, Nat.reduceSub, vaR, go_sem, ints, rows, rat, rats, ratsO, rtR, intsO, rowsO]
  simp -implicitDefEqProofs only [clR, Nat.reduceLeDiff, go_sem, evR, rat]
  refine SemC.loopR (σ := Nat) (fun i => St.of [(0, .t (rows m)), (4, .own 97), (5, .own 98), (6, .t (.i i))] [(97, intsO ((m.map minL).take i)), (98, intsO (cmA m c i))]) (fun i => i ≤ m.length) (fun i => m.length - i) 0 (Weak.of _ _ [some 9, some 13] (by simp) (by simp) ?_ ?_) (by omega) fun i hi R hn hr1 he => ?_
  · simp -implicitDefEqProofs only [ints, rows, Nat.reduceBEq, wkR, Nat.reduceEqDiff, ↓reduceIte, wrR]
  · refine ⟨⟨_, rfl, .refl _⟩, rfl, ⟨_, rfl, ?_⟩, rfl, trivial⟩
    rw [cmA_zero hr h0, intsO]; exact .refl _
  rcases Nat.lt_or_ge i m.length with h9 | h9
  · obtain ⟨r, hrow⟩ : ∃ r, m[i]? = some r := ⟨_, List.getElem?_eq_getElem h9⟩
    have hlr := hr r (List.mem_of_getElem? hrow)
    obtain ⟨x0, hx0⟩ : ∃ x, r[0]? = some x := ⟨_, List.getElem?_eq_getElem (by omega)⟩
    simp -implicitDefEqProofs only [go_sem, evR, ints, rows, rat, rats, hrow, hx0, decide_eq_true (show (i : Int) < (m.length : Int) by omega), List.getElem?_map, Option.map_some, Option.getD_some, List.length_map]
    repeat (first | refine ⟨by omega, ?_⟩ | refine ⟨by rw [nd_len]; omega, ?_⟩)
    have hll : (cmA m c (i + 1)).length = (cmA m c i).length := by rw [cmA_length, cmA_length]
    have hlc := cmA_length m c i
    refine SemC.loopR (σ := Nat) (fun k => St.of [(0, .t (rows m)), (4, .own 97), (5, .own 98), (6, .t (.i i)), (7, .t (.i (minL (r.take (max k 1))))), (8, .t (.i k))] [(97, intsO ((m.map minL).take i)), (98, intsO (mixL (cmA m c (i + 1)) (cmA m c i) k))]) (fun k => k ≤ c) (fun k => c - k) 0 (Weak.of _ _ [some 97, some 98] (by simp) (by simp) ?_ ?_) (by omega) fun k hk R2 hn2 hr2 he2 => ?_
    · simp -implicitDefEqProofs only [ints, rows, Nat.reduceBEq, wkR, Nat.reduceEqDiff, ↓reduceIte, wrR, (take_one hx0).1]
    · refine ⟨⟨_, rfl, .refl _⟩, rfl, ⟨_, rfl, ?_⟩, rfl, trivial⟩
      rw [mix_zero]; exact .refl _
    rcases Nat.lt_or_ge k c with h8 | h8
    · obtain ⟨x, hx⟩ : ∃ x, r[k]? = some x := ⟨_, List.getElem?_eq_getElem (by omega)⟩
      have hg1 : (mixL (cmA m c (i + 1)) (cmA m c i) k)[k]? = some (maxL ((colOf m k).take (max i 1))) := by rw [mix_get hll (by omega), cmA_get h8]
      have hml : (mixL (cmA m c (i + 1)) (cmA m c i) k).length = c := by rw [mix_length hll (by omega), hlc]
      have hnx := cmA_next h8 hrow hx
      have hmn := min_step hx
      simp -implicitDefEqProofs only [go_sem, evR, ints, rows, rat, rats, intsO, hrow, hx, hlr, hg1, hml, decide_eq_true (show (k : Int) < (c : Int) by omega), List.getElem?_map, Option.map_some, Option.getD_some, List.length_map]
      repeat (first | refine ⟨by omega, ?_⟩ | refine ⟨by rw [nd_len]; omega, ?_⟩)
      refine hn2 _ (k + 1) (Weak.of _ _ [some 97, some 98] (by simp) (by simp) ?_ ?_) (by omega) (by omega)
      · simp -implicitDefEqProofs only [ints, rows, Nat.reduceBEq, wkR, Nat.reduceEqDiff, ↓reduceIte, wrR, next64 h8 (by omega), hmn, max_succ]
      · refine ⟨⟨_, rfl, .refl _⟩, rfl, ⟨_, rfl, ?_⟩, rfl, trivial⟩
        rw [← mix_set hll hnx, intsO, List.map_set]; exact .refl _
    · have hkc : k = c := by omega
      have hall : mixL (cmA m c (i + 1)) (cmA m c i) k = cmA m c (i + 1) := by
        have := mix_all hll
        rw [hlc] at this
        rw [hkc]; exact this
      have hrk : r.take (max k 1) = r := take_all1 (by omega) (by omega)
      rw [hall, hrk]
      simp -implicitDefEqProofs only [go_sem, evR, ints, rows, rat, rats, intsO, hrow, hlr, decide_eq_false (show ¬ (k : Int) < (c : Int) by omega), List.getElem?_map, Option.map_some, Option.getD_some, List.length_map]
      repeat (first | refine ⟨by omega, ?_⟩ | refine ⟨by rw [nd_len]; omega, ?_⟩)
      refine he2 _ _ ?_
      have hltm : ((m.map minL).take i).length = i := by rw [List.length_take, hrl]; omega
      simp -implicitDefEqProofs only [go_sem, evR, ints, rows, rat, rats, intsO, List.length_map, hltm]
      refine ⟨by omega, hn _ (i + 1) (Weak.of _ _ [some 62, some 98] (by simp) (by simp) ?_ ?_) (by omega) (by omega)⟩
      · simp -implicitDefEqProofs only [ints, rows, Nat.reduceBEq, wkR, Nat.reduceEqDiff, ↓reduceIte, wrR, next64 h9 (by omega)]
      · refine ⟨⟨_, rfl, ?_⟩, rfl, ⟨_, rfl, .refl _⟩, rfl, trivial⟩
        rw [take_snoc (show (m.map minL)[i]? = some (minL r) by rw [List.getElem?_map, hrow]; rfl), intsO, List.map_append]; exact .refl _
  · have hil : i = m.length := by omega
    rw [show (m.map minL).take i = m.map minL from List.take_of_length_le (by omega), hil, cmA_all h1]
    simp -implicitDefEqProofs only [go_sem, evR, ints, rows, rat, rats, intsO, decide_eq_false (show ¬ (m.length : Int) < (m.length : Int) by omega), List.length_map]
    refine he _ _ ?_
    simp -implicitDefEqProofs only [go_sem, evR, ints, rows, rat, rats, intsO]
theorem peR_ok {g : Gm} (hg : isGameB g = true) (hb : nPure g 0 ≤ 16 ∧ nPure g 1 ≤ 16) : peR g = saddle (tabM g) (nPure g 1).toNat := by rw [peR, tabR_ok hg hb]; rfl
theorem peR_no {g : Gm} {c : Int} (h : tabR g = ([], c)) (hc : c ≠ 0) : peR g = (0, 0, c) := by rw [peR, h]; exact if_neg hc
end
end Go.Ab

/- Contracts: equilibria of pure strategies. -/
set_option linter.unusedSimpArgs false
set_option linter.unusedVariables false
namespace Go.Ab
open Go.Proofs
section
attribute [-go_sem] load1C load1V fldC lenC idxC loadNV nilCheckW
set_option maxRecDepth 20000 in
theorem spec_PureEquilibrium_ok (g : Gm) (hg : gameL g) : Pure Try.prog 29 [gameT g] (tr3 (peR g)) := by
  refine fun_spec_PureEquilibrium (by simp) ?_
  simp -implicitDefEqProofs only [go_sem, evR, ints, rows, rat, rats, c_spec_PureEquilibrium, gameT, nodes]
  rcases Bool.eq_false_or_eq_true (isGameB g) with hgb | hgb
  · by_cases hb : nPure g 0 ≤ 16 ∧ nPure g 1 ≤ 16
    · have hq := spec_l28Table_ok g hg hgb hb.1 hb.2
      simp only [rowsO] at hq
      refine CallW.res hq [] rfl Try.call97 ?_ (.inl rfl) ?_
      · simp -implicitDefEqProofs only [agR, Nat.reduceLeDiff, Nat.reduceSub, vaR, go_sem, ints, rows, rat, rats, ratsO, rtR, intsO, rowsO]
      simp -implicitDefEqProofs only [clR, Nat.reduceLeDiff, go_sem, evR, rat, bne_self_eq_false, opR, Nat.reduceBEq]
      obtain ⟨s1, s2, s3, s4, s5, s6⟩ := tabM_shape hgb hb
      have hp := spec_l28Extremes_ok (tabM g) (nPure g 1).toNat s1 s2 s4 s5 s3
      rw [peR_ok hgb hb]
      generalize (nPure g 1).toNat = c at s3 s4 s5 hp ⊢
      generalize tabM g = m at s1 s2 s3 hp ⊢
      have hC : (tr m c).length = c := by simp [tr]
      simp only [rows, intsO] at hp
      refine CallW.res hp [13] rfl Try.call103 ?_ (.inr ⟨intsO_noSh _, intsO_noSh _, trivial⟩) ?_
      · simp -implicitDefEqProofs only [agR, Nat.reduceLeDiff, Nat.reduceSub, vaR, go_sem, ints, rows, rat, rats, ratsO, rtR, intsO, rowsO]
      simp -implicitDefEqProofs only [clR, Nat.reduceLeDiff, go_sem, evR, rat, intsO, opR, Nat.reduceBEq]
      refine SemC.loopR (σ := Nat) (fun i => St.of [(5, .t (rows m)), (7, .t (ints (m.map minL))), (8, .t (ints ((tr m c).map maxL))), (9, .t (.i i))] []) (fun i => i ≤ m.length ∧ noSad m c i 0) (fun i => m.length - i) 0 (Weak.trans (Weak.share 13 rfl) (Weak.trans (Weak.share 21 rfl) (Weak.trans (Weak.share 22001 rfl) (Weak.of _ _ [] (by simp) (by simp) ?_ ?_)))) ⟨by omega, fun _ _ h => by omega, fun _ h => by omega⟩ fun i hI R hn hr he => ?_
      · simp -implicitDefEqProofs only [ints, rows, Nat.reduceBEq, wkR, Nat.reduceEqDiff, ↓reduceIte, wrR, shareA, T.toSh, toShL_ints, toShL_intsO]
      · exact trivial
      obtain ⟨hi, hI⟩ := hI
      rcases Nat.lt_or_ge i m.length with h9 | h9
      · obtain ⟨r, hrow⟩ : ∃ r, m[i]? = some r := ⟨_, List.getElem?_eq_getElem h9⟩
        have hlr := s3 r (List.mem_of_getElem? hrow)
        simp -implicitDefEqProofs only [go_sem, evR, ints, rows, rat, rats, hrow, decide_eq_true (show (i : Int) < (m.length : Int) by omega), List.getElem?_map, Option.map_some, Option.getD_some, List.length_map]
        refine SemC.loopR (σ := Nat) (fun k => St.of [(5, .t (rows m)), (7, .t (ints (m.map minL))), (8, .t (ints ((tr m c).map maxL))), (9, .t (.i i)), (10, .t (.i k))] []) (fun k => k ≤ c ∧ noSad m c i k) (fun k => c - k) 0 (Weak.of _ _ [] (by simp) (by simp) ?_ ?_) ⟨by omega, hI⟩ fun k hK R2 hn2 hr2 he2 => ?_
        · simp -implicitDefEqProofs only [ints, rows, Nat.reduceBEq, wkR, Nat.reduceEqDiff, ↓reduceIte, wrR]
        · exact trivial
        obtain ⟨hk, hK⟩ := hK
        rcases Nat.lt_or_ge k c with h8 | h8
        · obtain ⟨x, hx⟩ : ∃ x, r[k]? = some x := ⟨_, List.getElem?_eq_getElem (by omega)⟩
          have hsad := sad_eq hrow hlr hx
          have hg1 : (m.map minL)[i]? = some (minL r) := by rw [List.getElem?_map, hrow]; rfl
          have hg2 : (tr m c)[k]? = some (colOf m k) := by rw [tr, List.getElem?_map, List.getElem?_range h8]; rfl
          simp -implicitDefEqProofs only [go_sem, evR, ints, rows, rat, rats, hrow, hx, hg2, hlr, hC, decide_eq_true (show (k : Int) < (c : Int) by omega), List.getElem?_map, Option.map_some, Option.getD_some, List.length_map]
          repeat (first | refine ⟨by omega, ?_⟩ | refine ⟨by rw [nd_len]; omega, ?_⟩)
          refine ⟨fun a => ⟨by omega, by omega, h9, by omega, by omega, h8, by omega, by omega, h8, fun b => ?_, fun b => ?_⟩, fun a => ?_⟩
          · have a1 : x = minL r := by simpa using a
            have b1 : x = maxL (colOf m k) := by simpa using b
            rw [decide_eq_true a1, decide_eq_true b1] at hsad
            refine hr2 _ ?_
            simp -implicitDefEqProofs only [go_sem, evR, ints, rows, rat, rats]
            refine hr _ ?_
            simp -implicitDefEqProofs only [go_sem, evR, ints, rows, rat, rats]
            rw [saddle_some h9 h8 hK hsad]
            rfl
          · have a1 : x = minL r := by simpa using a
            have b1 : ¬ x = maxL (colOf m k) := by simpa using b
            have hs : sad m c i k = false := by rw [hsad, decide_eq_true a1, decide_eq_false b1]; rfl
            refine hn2 _ (k + 1) (Weak.of _ _ [] (by simp) (by simp) ?_ ?_) ⟨by omega, noSad_next hK hs⟩ (by omega)
            · simp -implicitDefEqProofs only [ints, rows, Nat.reduceBEq, wkR, Nat.reduceEqDiff, ↓reduceIte, wrR, next64 h8 (by omega)]
            · exact trivial
          · have a1 : ¬ x = minL r := by simpa using a
            have hs : sad m c i k = false := by rw [hsad, decide_eq_false a1]; rfl
            refine hn2 _ (k + 1) (Weak.of _ _ [] (by simp) (by simp) ?_ ?_) ⟨by omega, noSad_next hK hs⟩ (by omega)
            · simp -implicitDefEqProofs only [ints, rows, Nat.reduceBEq, wkR, Nat.reduceEqDiff, ↓reduceIte, wrR, next64 h8 (by omega)]
            · exact trivial
        · have hkc : k = c := by omega
          rw [hkc] at hK
          simp -implicitDefEqProofs only [go_sem, evR, ints, rows, rat, rats, hrow, hlr, decide_eq_false (show ¬ (k : Int) < (c : Int) by omega), List.getElem?_map, Option.map_some, Option.getD_some, List.length_map]
          repeat (first | refine ⟨by omega, ?_⟩ | refine ⟨by rw [nd_len]; omega, ?_⟩)
          refine he2 _ _ ?_
          simp -implicitDefEqProofs only [go_sem, evR, ints, rows, rat, rats]
          refine hn _ (i + 1) (Weak.of _ _ [] (by simp) (by simp) ?_ ?_) ⟨by omega, noSad_row hK⟩ (by omega)
          · simp -implicitDefEqProofs only [ints, rows, Nat.reduceBEq, wkR, Nat.reduceEqDiff, ↓reduceIte, wrR, next64 h9 (by omega)]
          · exact trivial
      · have hil : i = m.length := by omega
        simp -implicitDefEqProofs only [go_sem, evR, ints, rows, rat, rats, decide_eq_false (show ¬ (i : Int) < (m.length : Int) by omega), List.length_map]
        refine he _ _ ?_
        simp -implicitDefEqProofs only [go_sem, evR, ints, rows, rat, rats]
        rw [saddle_none (fun i' k' hi' hk' => hI.1 i' k' (by omega) hk')]
        rfl
    · refine CallW.pure (spec_l28Table_big g hg hgb hb) [] rfl Try.call97 ?_ (by first | trivial | simp [T.noSh, T.noShL, rat]) rfl ?_
      · simp -implicitDefEqProofs only [agR, Nat.reduceLeDiff, Nat.reduceSub, vaR, go_sem, ints, rows, rat, rats, ratsO, rtR, intsO, rowsO]
      simp -implicitDefEqProofs only [go_sem, evR, ints, rows, rat, rats]
      rw [peR_no (tabR_big hgb hb) (by decide)]
      exact ⟨fun _ => rfl, fun h => absurd h (by decide)⟩
  · refine CallW.pure (spec_l28Table_bad g hg hgb) [] rfl Try.call97 ?_ (by first | trivial | simp [T.noSh, T.noShL, rat]) rfl ?_
    · simp -implicitDefEqProofs only [agR, Nat.reduceLeDiff, Nat.reduceSub, vaR, go_sem, ints, rows, rat, rats, ratsO, rtR, intsO, rowsO]
    simp -implicitDefEqProofs only [go_sem, evR, ints, rows, rat, rats]
    rw [peR_no (tabR_bad hgb) (by decide)]
    exact ⟨fun _ => rfl, fun h => absurd h (by decide)⟩
set_option maxRecDepth 20000 in
theorem impl_PureEquilibrium_ok (g : Gm) (hg : gameL g) : Pure Try.prog 30 [gameT g] (tr3 (peR g)) := by
  refine fun_impl_PureEquilibrium (by simp) ?_
  simp -implicitDefEqProofs only [go_sem, evR, ints, rows, rat, rats, c_impl_PureEquilibrium, gameT, nodes]
  rcases Bool.eq_false_or_eq_true (isGameB g) with hgb | hgb
  · by_cases hb : nPure g 0 ≤ 16 ∧ nPure g 1 ≤ 16
    · have hq := impl_tableOf_ok g hg hgb hb.1 hb.2
      simp only [rowsO] at hq
      refine CallW.res hq [] rfl Try.call100 ?_ (.inl rfl) ?_
      · simp -implicitDefEqProofs only [agR, Nat.reduceLeDiff, Nat.reduceSub, vaR, go_sem, ints, rows, rat, rats, ratsO, rtR, intsO, rowsO]
      simp -implicitDefEqProofs only [clR, Nat.reduceLeDiff, go_sem, evR, rat, bne_self_eq_false, opR, Nat.reduceBEq]
      obtain ⟨s1, s2, s3, s4, s5, s6⟩ := tabM_shape hgb hb
      have hp := impl_turned_ok (tabM g) (nPure g 1).toNat (fun e => by rw [e] at s1; simp at s1) s3 (by omega) (by omega)
      rw [peR_ok hgb hb]
      generalize (nPure g 1).toNat = c at s3 s4 s5 hp ⊢
      generalize tabM g = m at s1 s2 s3 hp ⊢
      have hC : (tr m c).length = c := by simp [tr]
      have hmn := fun (r : List Int) (h : r.length = c) => slices_Min_ok r (fun e => by rw [e] at h; simp at h; omega) (by omega)
      have hmx := fun (r : List Int) (h : r.length = m.length) => slices_Max_ok r (fun e => by rw [e] at h; simp at h; omega) (by omega)
      simp only [rows, rowsO] at hp
      refine CallW.res hp [14] rfl Try.call104 ?_ (.inr (rowsO_noSh _)) ?_
      · simp -implicitDefEqProofs only [agR, Nat.reduceLeDiff, Nat.reduceSub, vaR, go_sem, ints, rows, rat, rats, ratsO, rtR, intsO, rowsO]
      simp -implicitDefEqProofs only [clR, Nat.reduceLeDiff, go_sem, evR, rat, opR, Nat.reduceBEq, List.length_map]
      refine SemC.loopR (σ := Nat) (fun i => St.of [(7, .t (rows (tr m c))), (22, .t (rows m)), (23, .t (.i m.length)), (24, .t (.i i))] []) (fun i => i ≤ m.length ∧ noSad m c i 0) (fun i => m.length - i) 0 (Weak.trans (Weak.share 14 rfl) (Weak.trans (Weak.share 21 rfl) (Weak.of _ _ [] (by simp) (by simp) ?_ ?_))) ⟨by omega, fun _ _ h => by omega, fun _ h => by omega⟩ fun i hI R hn hr he => ?_
      · simp -implicitDefEqProofs only [ints, rows, Nat.reduceBEq, wkR, Nat.reduceEqDiff, ↓reduceIte, wrR, shareA, T.toSh, toShL_intsO, List.length_map]
      · exact trivial
      obtain ⟨hi, hI⟩ := hI
      rcases Nat.lt_or_ge i m.length with h9 | h9
      · obtain ⟨r, hrow⟩ : ∃ r, m[i]? = some r := ⟨_, List.getElem?_eq_getElem h9⟩
        have hlr := s3 r (List.mem_of_getElem? hrow)
        simp -implicitDefEqProofs only [go_sem, evR, ints, rows, rat, rats, hrow, hlr, decide_eq_true (show (i : Int) < (m.length : Int) by omega), List.getElem?_map, Option.map_some, Option.getD_some, List.length_map]
        repeat (first | refine ⟨by omega, ?_⟩ | refine ⟨by rw [nd_len]; omega, ?_⟩)
        refine SemC.loopR (σ := Nat) (fun k => St.of [(7, .t (rows (tr m c))), (8, .t (.i i)), (9, .t (ints r)), (22, .t (rows m)), (23, .t (.i m.length)), (24, .t (.i i)), (29, .t (ints r)), (30, .t (.i c)), (31, .t (.i k))] []) (fun k => k ≤ c ∧ noSad m c i k) (fun k => c - k) 0 (Weak.of _ _ [] (by simp) (by simp) ?_ ?_) ⟨by omega, hI⟩ fun k hK R2 hn2 hr2 he2 => ?_
        · simp -implicitDefEqProofs only [ints, rows, Nat.reduceBEq, wkR, Nat.reduceEqDiff, ↓reduceIte, wrR]
        · exact trivial
        obtain ⟨hk, hK⟩ := hK
        rcases Nat.lt_or_ge k c with h8 | h8
        · obtain ⟨x, hx⟩ : ∃ x, r[k]? = some x := ⟨_, List.getElem?_eq_getElem (by omega)⟩
          have hsad := sad_eq hrow hlr hx
          have hg2 : (tr m c)[k]? = some (colOf m k) := by rw [tr, List.getElem?_map, List.getElem?_range h8]; rfl
          simp -implicitDefEqProofs only [go_sem, evR, ints, rows, rat, rats, hx, hg2, hC, decide_eq_true (show (k : Int) < (c : Int) by omega), List.getElem?_map, Option.map_some, Option.getD_some, List.length_map]
          repeat (first | refine ⟨by omega, ?_⟩ | refine ⟨by rw [nd_len]; omega, ?_⟩)
          refine CallW.pure (hmn r hlr) [] rfl Try.call105 ?_ (by first | trivial | simp [T.noSh, T.noShL, rat]) rfl ?_
          · simp -implicitDefEqProofs only [agR, Nat.reduceLeDiff, Nat.reduceSub, vaR, go_sem, ints, rows, rat, rats, ratsO, rtR, intsO, rowsO]
          simp -implicitDefEqProofs only [go_sem, evR, ints, rows, rat, rats, hg2, hC, List.getElem?_map, Option.map_some, Option.getD_some, List.length_map]
          refine ⟨fun a => ⟨by omega, by omega, h8, ?_⟩, fun a => ?_⟩
          · refine CallW.pure (hmx (colOf m k) (colOf_len m k)) [] rfl Try.call106 ?_ (by first | trivial | simp [T.noSh, T.noShL, rat]) rfl ?_
            · simp -implicitDefEqProofs only [agR, Nat.reduceLeDiff, Nat.reduceSub, vaR, go_sem, ints, rows, rat, rats, ratsO, rtR, intsO, rowsO]
            simp -implicitDefEqProofs only [go_sem, evR, ints, rows, rat, rats]
            refine ⟨fun b => ?_, fun b => ?_⟩
            · have a1 : x = minL r := by simpa using a
              have b1 : x = maxL (colOf m k) := by simpa using b
              rw [decide_eq_true a1, decide_eq_true b1] at hsad
              refine hr2 _ ?_
              simp -implicitDefEqProofs only [go_sem, evR, ints, rows, rat, rats]
              refine hr _ ?_
              simp -implicitDefEqProofs only [go_sem, evR, ints, rows, rat, rats]
              rw [saddle_some h9 h8 hK hsad]
              rfl
            · have a1 : x = minL r := by simpa using a
              have b1 : ¬ x = maxL (colOf m k) := by simpa using b
              have hs : sad m c i k = false := by rw [hsad, decide_eq_true a1, decide_eq_false b1]; rfl
              refine hn2 _ (k + 1) (Weak.of _ _ [] (by simp) (by simp) ?_ ?_) ⟨by omega, noSad_next hK hs⟩ (by omega)
              · simp -implicitDefEqProofs only [ints, rows, Nat.reduceBEq, wkR, Nat.reduceEqDiff, ↓reduceIte, wrR, next64 h8 (by omega)]
              · exact trivial
          · have a1 : ¬ x = minL r := by simpa using a
            have hs : sad m c i k = false := by rw [hsad, decide_eq_false a1]; rfl
            refine hn2 _ (k + 1) (Weak.of _ _ [] (by simp) (by simp) ?_ ?_) ⟨by omega, noSad_next hK hs⟩ (by omega)
            · simp -implicitDefEqProofs only [ints, rows, Nat.reduceBEq, wkR, Nat.reduceEqDiff, ↓reduceIte, wrR, next64 h8 (by omega)]
            · exact trivial
        · have hkc : k = c := by omega
          rw [hkc] at hK
          simp -implicitDefEqProofs only [go_sem, evR, ints, rows, rat, rats, decide_eq_false (show ¬ (k : Int) < (c : Int) by omega)]
          refine he2 _ _ ?_
          simp -implicitDefEqProofs only [go_sem, evR, ints, rows, rat, rats]
          refine hn _ (i + 1) (Weak.of _ _ [] (by simp) (by simp) ?_ ?_) ⟨by omega, noSad_row hK⟩ (by omega)
          · simp -implicitDefEqProofs only [ints, rows, Nat.reduceBEq, wkR, Nat.reduceEqDiff, ↓reduceIte, wrR, next64 h9 (by omega)]
          · exact trivial
      · have hil : i = m.length := by omega
        simp -implicitDefEqProofs only [go_sem, evR, ints, rows, rat, rats, decide_eq_false (show ¬ (i : Int) < (m.length : Int) by omega)]
        refine he _ _ ?_
        simp -implicitDefEqProofs only [go_sem, evR, ints, rows, rat, rats]
        rw [saddle_none (fun i' k' hi' hk' => hI.1 i' k' (by omega) hk')]
        rfl
    · refine CallW.pure (impl_tableOf_big g hg hgb hb) [] rfl Try.call100 ?_ (by first | trivial | simp [T.noSh, T.noShL, rat]) rfl ?_
      · simp -implicitDefEqProofs only [agR, Nat.reduceLeDiff, Nat.reduceSub, vaR, go_sem, ints, rows, rat, rats, ratsO, rtR, intsO, rowsO]
      simp -implicitDefEqProofs only [go_sem, evR, ints, rows, rat, rats]
      rw [peR_no (tabR_big hgb hb) (by decide)]
      exact ⟨fun _ => rfl, fun h => absurd h (by decide)⟩
  · refine CallW.pure (impl_tableOf_bad g hg hgb) [] rfl Try.call100 ?_ (by first | trivial | simp [T.noSh, T.noShL, rat]) rfl ?_
    · simp -implicitDefEqProofs only [agR, Nat.reduceLeDiff, Nat.reduceSub, vaR, go_sem, ints, rows, rat, rats, ratsO, rtR, intsO, rowsO]
    simp -implicitDefEqProofs only [go_sem, evR, ints, rows, rat, rats]
    rw [peR_no (tabR_bad hgb) (by decide)]
    exact ⟨fun _ => rfl, fun h => absurd h (by decide)⟩
end
end Go.Ab

/- The law FnExactPureEquilibrium, as a contract. -/
set_option linter.unusedSimpArgs false
set_option linter.unusedVariables false
namespace Go.Ab
open Go.Proofs

section
attribute [-go_sem] load1C load1V fldC lenC idxC loadNV nilCheckW
set_option maxRecDepth 20000 in
theorem laws_FnExactPureEquilibrium_ok (g : Gm) (hg : gameL g) : Pure Try.prog 4 [gameT g] (.b true) := by
  refine fun_laws_FnExactPureEquilibrium (by simp) ?_
  simp -implicitDefEqProofs only [go_sem, evR, ints, rows, rat, rats, c_laws_FnExactPureEquilibrium, gameT, stratT, claimT, gameO, stratO, claimO, nodes, nodesO, rowsO, intsO]
  have hc1 := laws_szGame_ok g 1048576 hg (by omega) (by omega)
  (try simp only [gameT, stratT, claimT, gameO, stratO, claimO, nodes, nodesO, rows, rowsO, ints, intsO, tr3] at hc1)
  refine CallW.pure hc1 [] rfl Try.call20 ?_ (by first | trivial | simp [T.noSh, T.noShL, rat]) rfl ?_
  · simp -implicitDefEqProofs only [agR, Nat.reduceLeDiff, Nat.reduceSub, vaR, go_sem, ints, rows, rat, rats, ratsO, rtR, intsO, rowsO]
  simp -implicitDefEqProofs only [go_sem, evR, ints, rows, rat, rats, opR, Nat.reduceBEq, cellsV, noLk, readOK, readA, mergeR_at]
  refine ⟨fun _ => trivial, fun hb0 => ?_⟩
  obtain ⟨hgS, hgb1, hgb2⟩ := budgetG_S (g := g) (left := 1048576) (by omega) (by omega) hb0
  have hg12 := gameS_12 hgS
  have hc2 := laws_toGame_ok g hg12
  (try simp only [gameT, stratT, claimT, gameO, stratO, claimO, nodes, nodesO, rows, rowsO, ints, intsO, tr3] at hc2)
  refine CallW.res hc2 [] rfl Try.call22 ?_ (.inl rfl) ?_
  · simp -implicitDefEqProofs only [agR, Nat.reduceLeDiff, Nat.reduceSub, vaR, go_sem, ints, rows, rat, rats, ratsO, rtR, intsO, rowsO]
  simp -implicitDefEqProofs only [clR, Nat.reduceLeDiff, go_sem, evR, rat, opR, Nat.reduceBEq, cellsV, noLk, readOK, readA, mergeR_at]
  have hc3 := spec_PureEquilibrium_ok g (gameS_L hgS)
  (try simp only [gameT, stratT, claimT, gameO, stratO, claimO, nodes, nodesO, rows, rowsO, ints, intsO, tr3] at hc3)
  refine CallW.pure hc3 [18, 19001, 19002] rfl Try.call29 ?_ (by first | trivial | simp [T.noSh, T.noShL, rat]) rfl ?_
  · simp -implicitDefEqProofs only [agR, Nat.reduceLeDiff, Nat.reduceSub, vaR, go_sem, ints, rows, rat, rats, ratsO, rtR, intsO, rowsO]
  simp -implicitDefEqProofs only [go_sem, evR, ints, rows, rat, rats, opR, Nat.reduceBEq, cellsV, noLk, readOK, readA, mergeR_at]
  have hc4 := laws_toGame_ok g hg12
  (try simp only [gameT, stratT, claimT, gameO, stratO, claimO, nodes, nodesO, rows, rowsO, ints, intsO, tr3] at hc4)
  refine CallW.res hc4 [] rfl Try.call22 ?_ (.inl rfl) ?_
  · simp -implicitDefEqProofs only [agR, Nat.reduceLeDiff, Nat.reduceSub, vaR, go_sem, ints, rows, rat, rats, ratsO, rtR, intsO, rowsO]
  simp -implicitDefEqProofs only [clR, Nat.reduceLeDiff, go_sem, evR, rat, opR, Nat.reduceBEq, cellsV, noLk, readOK, readA, mergeR_at]
  have hc5 := impl_PureEquilibrium_ok g (gameS_L hgS)
  (try simp only [gameT, stratT, claimT, gameO, stratO, claimO, nodes, nodesO, rows, rowsO, ints, intsO, tr3] at hc5)
  refine CallW.pure hc5 [27001, 27002, 27003] rfl Try.call30 ?_ (by first | trivial | simp [T.noSh, T.noShL, rat]) rfl ?_
  · simp -implicitDefEqProofs only [agR, Nat.reduceLeDiff, Nat.reduceSub, vaR, go_sem, ints, rows, rat, rats, ratsO, rtR, intsO, rowsO]
  simp -implicitDefEqProofs only [go_sem, evR, ints, rows, rat, rats, opR, Nat.reduceBEq, cellsV, noLk, readOK, readA, mergeR_at]
  have hc6 := laws_toGame_ok g hg12
  (try simp only [gameT, stratT, claimT, gameO, stratO, claimO, nodes, nodesO, rows, rowsO, ints, intsO, tr3] at hc6)
  refine CallC.res hc6 [] rfl Try.call22 (fun e R' hR => ?_) (.inl rfl) ?_
  · simp -implicitDefEqProofs only [agR, Nat.reduceLeDiff, Nat.reduceSub, vaR, go_sem, ints, rows, rat, rats, ratsO, rtR, intsO, rowsO]
  simp -implicitDefEqProofs only [clR, Nat.reduceLeDiff, go_sem, evR, rat, opR, Nat.reduceBEq, cellsV, noLk, readOK, readA, mergeR_at]
  have hc7 := laws_eqGame_ok g g hg12 hg12
  (try simp only [gameT, stratT, claimT, gameO, stratO, claimO, nodes, nodesO, rows, rowsO, ints, intsO, tr3] at hc7)
  refine CallV.pure hc7 [27001, 27002, 27003, 46, 47001, 47002] rfl Try.call25 (fun e R' hR => ?_) (by first | trivial | simp [T.noSh, T.noShL, rat]) (fun _ => rfl) ?_
  · have hq27001 := (hR 27001).resolve_left (by simp -implicitDefEqProofs only [go_sem, evR, ints, rows, rat, rats, not_false_eq_true]); have hq27002 := (hR 27002).resolve_left (by simp -implicitDefEqProofs only [go_sem, evR, ints, rows, rat, rats, not_false_eq_true]); have hq27003 := (hR 27003).resolve_left (by simp -implicitDefEqProofs only [go_sem, evR, ints, rows, rat, rats, not_false_eq_true]); have hq46 := (hR 46).resolve_left (by simp -implicitDefEqProofs only [go_sem, evR, ints, rows, rat, rats, not_false_eq_true]); have hq47001 := (hR 47001).resolve_left (by simp -implicitDefEqProofs only [go_sem, evR, ints, rows, rat, rats, not_false_eq_true]); have hq47002 := (hR 47002).resolve_left (by simp -implicitDefEqProofs only [go_sem, evR, ints, rows, rat, rats, not_false_eq_true])
    simp -implicitDefEqProofs only [go_sem, evR, ints, rows, rat, rats] at hq27001 hq27002 hq27003 hq46 hq47001 hq47002
    simp -implicitDefEqProofs only [agR, Nat.reduceLeDiff, Nat.reduceSub, vaR, go_sem, ints, rows, rat, rats, ratsO, rtR, intsO, rowsO, hq27001, hq27002, hq27003, hq46, hq47001, hq47002]
  simp -implicitDefEqProofs only [go_sem, evR, ints, rows, rat, rats, opR, Nat.reduceBEq, cellsV, noLk, readOK, readA, mergeR_at, not_true_eq_false, decide_true, decide_false]
end
end Go.Ab

set_option linter.unusedSimpArgs false
set_option linter.unusedVariables false
namespace Go.Proofs.Ytkmmkgpnlmdcfaa
open Go.ChangeShapes Go.WideShapes Go.ChangeAt Go.RowKit Go.Ab

namespace fnExactPureEquilibrium
theorem said : ∀ xs, wtL [tyGame] xs → Pure Try.prog 4 xs (.b true)
  | [x0], h => by
    obtain ⟨g, rfl, hg⟩ := wt_game h.1
    exact laws_FnExactPureEquilibrium_ok g hg
  | [], h => h.elim
  | _ :: _ :: _, h => h.2.elim

set_option maxRecDepth 100000 in
theorem lifted (os : Os) (started : os.Started) (H : Type) (enc : TypeId × Value → H) :
    ReturnsInHanded {} Try.checked os 4 .any (Rows.fnExactPureEquilibriumSpec.pre6 enc Try.prog Try.f4 Rows.fnExactPureEquilibriumRow.domain false) (Rows.fnExactPureEquilibriumSpec.post enc Try.prog Try.f4 false true false false) := by
  refine returnsInHanded_of_change (C := Try.checked) (by kernel_rfl) started (by kernel_rfl) Try.func4
    (ChangeSpec.witness6 (enc := enc) (C := Try.checked) false ⟨#[], #[.agg #[.slice none 0 0, .slice none 0 0, .slice none 0 0]], []⟩ 8 (by kernel_rfl) (by kernel_rfl) (by kernel_rfl) (by kernel_rfl)) ?_
  intro W base args ds gs before hval hW _ _
  refine law_contract (tys := [tyGame]) (by kernel_rfl) (by kernel_rfl) rfl (by kernel_rfl) rfl (fun ds h => ?_) said W base args ds gs before hval hW
  match ds, h with
  | [d0], _ => rfl

theorem andT {a b : Bool} (ha : a = true) (hb : b = true) : (a && b) = true := by rw [ha, hb]; rfl
theorem joined0 : ((Rows.fnExactPureEquilibriumRow.wf (OpenSpec.ofChange Rows.fnExactPureEquilibriumSpec))) = true := by kernel_rfl
theorem joined1 : (laidOutB Try.prog) = true := Try.laidOutT
theorem joined2 : (mapsRowed Try.prog) = true := Try.mapsRowedT
theorem joined3 : (Try.f4.params.all (Try.prog.readableRec ·)) = true := by kernel_rfl
theorem joined4 : (namedTie Try.prog Rows.fnExactPureEquilibriumRow.named Rows.fnExactPureEquilibriumSpec.vars) = true := by kernel_rfl
theorem joined5 : ((Rows.fnExactPureEquilibriumRow.stops == [])) = true := by kernel_rfl
theorem joined6 : ((Try.prog.stops == [])) = true := by kernel_rfl
theorem joined7 : ((Rows.fnExactPureEquilibriumRow.knobs == [])) = true := by kernel_rfl
theorem joined8 : ((Try.prog.stopKnobs == [])) = true := by kernel_rfl
theorem joined9 : ((Rows.fnExactPureEquilibriumRow.inPlace == Try.prog.inPlace 4)) = true := by kernel_rfl
theorem joined10 : ((Rows.fnExactPureEquilibriumRow.unfollowed == Try.prog.unfollowed 4)) = true := by kernel_rfl
theorem joined11 : ((Rows.fnExactPureEquilibriumRow.recurses == Try.prog.recurses 4)) = true := by kernel_rfl
theorem joined12 : ((Rows.fnExactPureEquilibriumRow.named == Try.prog.varsNamed 4)) = true := by kernel_rfl
theorem joined13 : ((Rows.fnExactPureEquilibriumRow.maps == (Try.f4.params.toList ++ Rows.fnExactPureEquilibriumSpec.plain.varTypes Try.prog).any (Try.prog.mapsRec ·))) = true := by kernel_rfl
theorem joined14 : ((Rows.fnExactPureEquilibriumRow.ifaces == (Try.f4.params.toList ++ Rows.fnExactPureEquilibriumSpec.plain.varTypes Try.prog).any (Try.prog.ifacesRec ·))) = true := by kernel_rfl
theorem joined15 : ((Rows.fnExactPureEquilibriumRow.mapsOut == Try.prog.mapsAmong Try.f4.resultTypes.toList)) = true := by kernel_rfl
theorem joined16 : ((Rows.fnExactPureEquilibriumRow.loops == (Try.f4.params.toList ++ Rows.fnExactPureEquilibriumSpec.plain.varTypes Try.prog).any (Try.prog.loopsFrom ·))) = true := by kernel_rfl
theorem joined17 : ((Rows.fnExactPureEquilibriumRow.wideKeys == (Try.f4.params.toList ++ Rows.fnExactPureEquilibriumSpec.plain.varTypes Try.prog ++ Try.f4.resultTypes.toList).any (Try.prog.wideKeysFrom ·))) = true := by kernel_rfl
theorem joined18 : (Rows.fnExactPureEquilibriumSpec.vars.all (Try.prog.varReadable ·)) = true := by kernel_rfl
theorem joined19 : (Try.f4.resultTypes.all (fun t => Try.prog.readableRec t && decide (t < Try.prog.types.size))) = true := by kernel_rfl
theorem joined20 : ((Rows.fnExactPureEquilibriumRow.ifacesOut == Try.f4.resultTypes.toList.any (Try.prog.ifacesRec ·))) = true := by kernel_rfl
theorem joined21 : ((Rows.fnExactPureEquilibriumRow.loopsOut == Try.f4.resultTypes.toList.any (Try.prog.loopsFrom ·))) = true := by kernel_rfl
theorem joined22 : ((Rows.fnExactPureEquilibriumRow.plainKeys == Try.prog.plainKeys)) = true := by kernel_rfl
theorem joined23 : (Rows.fnExactPureEquilibriumRow.shortTexts.isNone) = true := by kernel_rfl
theorem joined24 : (Try.prog.stopsHeard) = true := Try.heardT
theorem joined25 : (Try.prog.mayEnter) = true := Try.mayEnterT
theorem joined26 : ((Rows.fnExactPureEquilibriumRow.lifted == Try.prog.liftsFinal)) = true := (by rw [Try.liftsF]; rfl)
theorem joined27 : ((Try.prog.make == some Rows.fnExactPureEquilibriumRow.make)) = true := (by rw [Try.makeC]; rfl)
theorem joined28 : ((Rows.fnExactPureEquilibriumRow.kinds == (if Rows.fnExactPureEquilibriumRow.domain.isEmpty then [] else Try.f4.params.toList.map fun t => match Try.prog.underlying t with | some (.int k) => some k | _ => none))) = true := by kernel_rfl
theorem joined29 : ((Rows.fnExactPureEquilibriumRow.pinned == Rows.fnExactPureEquilibriumRow.pinnedBy)) = true := by kernel_rfl
theorem joined30 : ((Rows.fnExactPureEquilibriumRow.veiled == (Try.f4.params.toList ++ Rows.fnExactPureEquilibriumSpec.plain.varTypes Try.prog ++ Try.f4.resultTypes.toList).any (Try.prog.veiledRec ·))) = true := by kernel_rfl
theorem joined31 : (Rows.fnExactPureEquilibriumRow.veiledFits Try.prog Try.f4.params.toList (Try.f4.params.toList ++ Rows.fnExactPureEquilibriumSpec.plain.varTypes Try.prog ++ Try.f4.resultTypes.toList)) = true := by kernel_rfl
set_option maxRecDepth 100000 in
theorem joined : joinedFacts Try.prog 4 Try.f4 Rows.fnExactPureEquilibriumSpec Rows.fnExactPureEquilibriumRow = true := by
  unfold joinedFacts
  exact andT (andT (andT (andT (andT (andT (andT (andT (andT (andT (andT (andT (andT (andT (andT (andT (andT (andT (andT (andT (andT (andT (andT (andT (andT (andT (andT (andT (andT (andT (andT (joined0) joined1) joined2) joined3) joined4) joined5) joined6) joined7) joined8) joined9) joined10) joined11) joined12) joined13) joined14) joined15) joined16) joined17) joined18) joined19) joined20) joined21) joined22) joined23) joined24) joined25) joined26) joined27) joined28) joined29) joined30) joined31
theorem over : Rows.fnExactPureEquilibriumRow.holds Try.pinned (OpenSpec.ofChange Rows.fnExactPureEquilibriumSpec) :=
  OpenClaim.holds_of_wide 4 Try.f4 rfl rfl rfl rfl rfl rfl rfl ⟨rfl, rfl, rfl, rfl, rfl⟩ rfl rfl rfl rfl rfl (by kernel_rfl) Try.func4 joined
    (of_decide_eq_true (by kernel_rfl)) (by unfold Func.isWrapper; first | (rw [if_pos (by decide +kernel)]; kernel_rfl) | (rw [if_neg (by decide +kernel)]; exact ⟨rfl, rfl⟩))
    (fun os started H enc _ => lifted os started H enc)
end fnExactPureEquilibrium

theorem fnExactPureEquilibrium_holds : Rows.FnExactPureEquilibriumSaid := fnExactPureEquilibrium.over
#print axioms fnExactPureEquilibrium_holds
end Go.Proofs.Ytkmmkgpnlmdcfaa
