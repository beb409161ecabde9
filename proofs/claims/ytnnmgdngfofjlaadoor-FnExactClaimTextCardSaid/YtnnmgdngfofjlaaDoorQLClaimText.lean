/- The program's ClaimText returns what the reference's returns, for all arguments, and keeps its arguments: the law FnExactClaimText returns true for every input, in every run in which the three tables of Go's library that the row lists hold what the program's own text lays into them (the card's tie: they do). No conditions. -/
import Derived.Shelf.Strings.Builder1
import Derived.Shelf.Strings.Builder2
import Derived.Shelf.Strings.OnBuilder
import Derived.Shelf.Strings.BuilderF
import Derived.Shelf.Strings.BuilderK
import Derived.Shelf.Strings.Builder2Cap
import Derived.Shelf.Strconv.Itoa0
import Derived.Shelf.Strconv.Itoa1
import Derived.Shelf.LaysM
import Derived.Shelf.Strconv.Itoa2
import Derived.Shelf.Strconv.Itoa3
import Derived.Shelf.Strconv.Itoa4
import Derived.Shelf.Strings.BuilderCap
import Derived.Test.YtnnmgdngfofjlaaDoorProg
import Derived.Lib.ItoaNum
import Derived.Lib.Join
import Derived.Test.YtnnmgdngfofjlaaDoorRows
import Derived.Test.YtnnmgdngfofjlaaDoorCards
import Derived.Test.YtnnmgdngfofjlaaDoorTie
import Derived.Lay
import Derived.LaidSub
import Derived.Lib.LaidTab
import Derived.LaidMore
import Derived.LaidOnce
import Derived.SevenTiedAt
import Derived.Test.YtnnmgdngfofjlaaDoorQ4
/- Games as data: a best response is a strategy and attains the best value. -/
set_option linter.unusedSimpArgs false
set_option linter.unusedVariables false
namespace Go.Ab

theorem idxs_get {l : List Nd} {pl : Int} : ∀ (n q : Nat) (x : Int), (idxs l pl n)[q]? = some x → ∃ i : Nat, x = i ∧ i < n ∧ (l.getD i nd0).p = pl ∧ (idxs l pl i).length = q
  | 0, q, x, h => by simp [idxs] at h
  | n + 1, q, x, h => by
    rw [idxs_succ] at h
    split at h
    · rename_i hp
      rcases Nat.lt_trichotomy q (idxs l pl n).length with h1 | h1 | h1
      · rw [List.getElem?_append_left h1] at h
        obtain ⟨i, e, hi, h2⟩ := idxs_get n q x h
        exact ⟨i, e, by omega, h2⟩
      · rw [List.getElem?_append_right (by omega), h1, Nat.sub_self] at h
        simp at h
        exact ⟨n, h.symm, by omega, hp, h1.symm⟩
      · rw [List.getElem?_eq_none (by simp; omega)] at h; cases h
    · obtain ⟨i, e, hi, h2⟩ := idxs_get n q x h
      exact ⟨i, e, by omega, h2⟩
theorem setsOf_get {ns : List Int} {k : Nat} : ∀ {e : Nat}, e < (setsOf ns k).length → ∃ q c x, c < k ∧ ns[q]? = some x ∧ e = q * k + c ∧ (setsOf ns k)[e]? = some [x, (c : Int)] := by
  induction ns with
  | nil => intro e h; simp [setsOf] at h
  | cons n ns ih =>
    intro e h
    have e0 : setsOf (n :: ns) k = ((List.range k).map fun c : Nat => [n, (c : Int)]) ++ setsOf ns k := rfl
    rw [e0, List.length_append, List.length_map, List.length_range] at h
    by_cases he : e < k
    · refine ⟨0, e, n, he, rfl, by omega, ?_⟩
      rw [e0, List.getElem?_append_left (by simpa using he), List.getElem?_map, List.getElem?_range he]; rfl
    · obtain ⟨q, c, x, h1, h2, h3, h4⟩ := ih (e := e - k) (by omega)
      refine ⟨q + 1, c, x, h1, h2, by rw [Nat.add_mul]; omega, ?_⟩
      rw [e0, List.getElem?_append_right (by simpa using he), List.length_map, List.length_range]; exact h4
theorem sets_find {g : Gm} {pl : Int} {e : Nat} (h : e < (sets g pl).length) : ∃ i c, i < g.nd.length ∧ c < g.w.length ∧ (g.nd.getD i nd0).p = pl ∧ e = setI g pl i c ∧ sizeAt g pl e = (g.nd.getD i nd0).ch.length := by
  obtain ⟨q, c, x, h1, h2, h3, h4⟩ := setsOf_get h
  obtain ⟨i, rfl, hi, hp, hq⟩ := idxs_get _ _ _ h2
  refine ⟨i, c, hi, h1, hp, by rw [setI, hq]; exact h3, ?_⟩
  have e0 : (sets g pl).getD e [] = [(i : Int), (c : Int)] := by rw [List.getD_eq_getElem?_getD]; rw [show (sets g pl)[e]? = some [(i : Int), (c : Int)] from h4]; rfl
  rw [sizeAt, e0]; rfl
end Go.Ab

/- Games as data: where a player's nodes have their sets; the reach as it is made. -/
set_option linter.unusedSimpArgs false
set_option linter.unusedVariables false
namespace Go.Ab

def fillN (ns : List Int) (k n : Nat) : Nat → List Int
  | 0 => List.replicate n 0
  | j + 1 => (fillN ns k n j).set (ns.getD j 0).toNat ((j * k : Nat) : Int)
theorem fillN_length (ns : List Int) (k n : Nat) : ∀ j, (fillN ns k n j).length = n
  | 0 => by simp [fillN]
  | j + 1 => by rw [fillN, List.length_set, fillN_length ns k n j]
def ownL (g : Gm) (pl : Int) : List Int := fillN (idxs g.nd pl g.nd.length) g.w.length g.nd.length (idxs g.nd pl g.nd.length).length
theorem ownL_length (g : Gm) (pl : Int) : (ownL g pl).length = g.nd.length := fillN_length _ _ _ _
theorem idxs_nodup (l : List Nd) (pl : Int) (n : Nat) : (idxs l pl n).Nodup := by
  unfold idxs
  have h : ((List.range n).filter fun i => decide ((l.getD i nd0).p = pl)).Nodup := List.nodup_range.sublist List.filter_sublist
  refine List.Pairwise.map _ (fun a b hab => ?_) h
  intro he
  exact hab (by have he : (a : Int) = b := he; omega)
theorem fillN_get {ns : List Int} {k n i q0 : Nat} (hn : ns.Nodup) (h0 : ∀ x ∈ ns, 0 ≤ x) (hq : ns[q0]? = some (i : Int)) (hi : i < n) : ∀ j, j ≤ ns.length → (fillN ns k n j)[i]? = some (if q0 < j then ((q0 * k : Nat) : Int) else 0)
  | 0, _ => by
    rw [fillN, List.getElem?_replicate, if_pos hi, if_neg (by omega)]
  | j + 1, hj => by
    have ih := fillN_get (k := k) hn h0 hq hi j (by omega)
    obtain ⟨hq1, hq2⟩ := List.getElem?_eq_some_iff.1 hq
    have hjd : ns.getD j 0 = ns[j]'(by omega) := by rw [List.getD_eq_getElem?_getD, List.getElem?_eq_getElem (by omega : j < ns.length)]; rfl
    have hj0 := h0 (ns[j]'(by omega)) (List.getElem_mem _)
    rw [fillN, hjd, List.getElem?_set, fillN_length]
    by_cases he : j = q0
    · subst he
      rw [hq2]
      simp only [Int.toNat_natCast, if_true]
      rw [if_pos hi, if_pos (by omega)]
    · have hne : ns[j]'(by omega) ≠ (i : Int) := fun h => by
        rcases Nat.lt_or_gt_of_ne he with h1 | h1
        · exact (List.pairwise_iff_getElem.1 hn j q0 (by omega) hq1 h1) (h.trans hq2.symm)
        · exact (List.pairwise_iff_getElem.1 hn q0 j hq1 (by omega) h1) (hq2.trans h.symm)
      rw [if_neg (by omega), ih]
      by_cases h2 : q0 < j
      · rw [if_pos h2, if_pos (by omega)]
      · rw [if_neg h2, if_neg (by omega)]
theorem ownL_get {g : Gm} {pl : Int} {i : Nat} (hi : i < g.nd.length) (hp : (g.nd.getD i nd0).p = pl) : (ownL g pl)[i]? = some (((idxs g.nd pl i).length * g.w.length : Nat) : Int) := by
  obtain ⟨rest, e⟩ := idxs_split g.nd pl hp g.nd.length hi
  have hq : (idxs g.nd pl g.nd.length)[(idxs g.nd pl i).length]? = some (i : Int) := by
    rw [e, List.getElem?_append_right (Nat.le_refl _), Nat.sub_self]; rfl
  have h0 : ∀ x ∈ idxs g.nd pl g.nd.length, 0 ≤ x := fun x hx => by
    obtain ⟨j, rfl, _⟩ := idxs_mem hx; omega
  have hlt := (List.getElem?_eq_some_iff.1 hq).1
  have := fillN_get (k := g.w.length) (idxs_nodup g.nd pl g.nd.length) h0 hq hi _ (Nat.le_refl _)
  rw [if_pos hlt] at this
  exact this
end Go.Ab

/- Contracts: the best number and the first best response, the reference's. -/
set_option linter.unusedSimpArgs false
set_option linter.unusedVariables false
namespace Go.Ab
open Go.Proofs

theorem deal_w {g : Gm} (hg : isGameB g = true) {pl : Int} (hpl : pl = 0 ∨ pl = 1) {own b : Nat} (ho : own < g.w.length) (hb : b < g.w.length) : ∃ (u v : Nat) (r : List Int) (y : Int), fstC pl own b = u ∧ fstC pl b own = v ∧ g.w[u]? = some r ∧ r[v]? = some y ∧ (reach0 g pl own)[b]? = some y ∧ u < g.w.length ∧ v < r.length := by
  have e0 : (reach0 g pl own)[b]? = some (if pl = 0 then (g.w.getD own []).getD b 0 else (g.w.getD b []).getD own 0) := by
    unfold reach0; rw [List.getElem?_map, List.getElem?_range hb]; rfl
  rcases hpl with rfl | rfl
  · obtain ⟨r, y, h1, h2, _⟩ := game_w hg ho hb
    refine ⟨own, b, r, y, rfl, rfl, h1, h2, ?_, ho, (List.getElem?_eq_some_iff.1 h2).1⟩
    rw [e0, if_pos rfl]; simp only [List.getD_eq_getElem?_getD, h1, Option.getD_some, h2]
  · obtain ⟨r, y, h1, h2, _⟩ := game_w hg hb ho
    refine ⟨b, own, r, y, rfl, rfl, h1, h2, ?_, hb, (List.getElem?_eq_some_iff.1 h2).1⟩
    rw [e0, if_neg (by decide)]; simp only [List.getD_eq_getElem?_getD, h1, Option.getD_some, h2]
theorem cap0 {g : Gm} (hg : isGameB g = true) (pl : Int) (own : Nat) : capOK (reach0 g pl own) (dpt g) ∧ (∀ x ∈ reach0 g pl own, 0 ≤ x) := by
  obtain ⟨_, hk, hw, _, _, _⟩ := isGameB_spec hg
  obtain ⟨_, _, _, _, _, h1, h2⟩ := game_unit hg
  have hb := reach0_bound hw pl own
  have hs := sumI_le (b := 9) fun x hx => (hb x hx).2
  rw [reach0_length] at hs
  have hs0 := sumI_nonneg fun x hx => (hb x hx).1
  refine ⟨?_, fun x hx => (hb x hx).1⟩
  unfold capOK
  have h3 : sumI (reach0 g pl own) ≤ 54 := by omega
  have := Int.mul_le_mul h3 h2 (by omega) (by decide)
  omega
theorem Le.bc {a a' : T} {l l' : List T} (h : Le a a') (hl : Le (.box l) (.box l')) : Le (.box (a :: l)) (.box (a' :: l')) := by
  have hb : l.length = l'.length ∧ ∀ i (h : i < l.length) (h' : i < l'.length), Le l[i] l'[i] := by
    cases hl with
    | refl => exact ⟨rfl, fun i _ _ => .refl _⟩
    | box h1 h2 => exact ⟨h1, h2⟩
  refine .box (by simp [hb.1]) fun i hi hi' => ?_
  cases i with
  | zero => exact h
  | succ i => exact hb.2 i (by simpa using hi) (by simpa using hi')
theorem Le.nilRows (n : Nat) : Le (.arr 1 (List.replicate n (.v (.slice none 0 0)))) (rowsO (List.replicate n [])) := by
  refine .arr 1 (by simp) fun i h h' => ?_
  simp only [List.getElem_replicate, List.getElem_map]
  exact .nilArr 1
theorem runV_abs {g : Gm} (hg : isGameB g = true) {ot : List (List Int)} {pl : Int} (hpl : pl = 0 ∨ pl = 1) (hot : partsOK g ot (1 - pl)) (n : Nat) : -(n * capV) ≤ runV g ot pl n ∧ runV g ot pl n ≤ n * capV := by
  obtain ⟨p1, hk, hw, _, _, _⟩ := isGameB_spec hg
  obtain ⟨t1, t2, t3, t4⟩ := isTreeB_spec p1
  unfold runV
  refine sumI_range_abs fun own _ => ?_
  have hc := cap0 hg pl own
  exact bestV_cap t2 hpl hot (by omega) (reach0_length g pl own) hc.2 (by rw [dpt_eq]; exact Int.le_refl _) hc.1
def runT (g : Gm) (ot : List (List Int)) (pl : Int) : T := .tup [.i (runV g ot pl g.w.length), .agg [.i pl, rowsO (runB g ot pl g.w.length)]]
section
attribute [-go_sem] load1C load1V fldC lenC idxC loadNV nilCheckW
set_option maxRecDepth 20000 in
theorem spec_l24Run_ok {g : Gm} {ot : List (List Int)} {pl : Int} (hg : isGameB g = true) (hpl : pl = 0 ∨ pl = 1) (hot : partsOK g ot (1 - pl)) : Fun Tryd.prog 84 [] [.t (gameT g), .t (stratT (1 - pl, ot))] fun o r => o = [] ∧ r = runT g ot pl := by
  obtain ⟨p1, p2, p3, p4, p5⟩ := isGameB_parts hg
  obtain ⟨t1, t2, t3, t4⟩ := isTreeB_spec p1
  obtain ⟨u1, u2, u3, u4, u5, u6, u7⟩ := game_unit hg
  have hsl := sets_len g pl t1.2 p2.2
  have hrv := runV_abs (n := g.w.length) hg hpl hot
  refine fun_spec_l24Run_h (by simp) ?_
  simp -implicitDefEqProofs only [go_sem, evR, ints, rows, rat, rats, c_spec_l24Run_h, gameT, stratT, nodes]
  rw [wrap64 (n := 1 - (1 - pl)) (by omega) (by omega), show 1 - (1 - pl) = pl by omega]
  refine CallC.res (l21Sets_t g pl t1.2 p2.2) [] rfl Tryd.call36 (fun e R' hR => ?_) (.inl rfl) ?_
  · simp -implicitDefEqProofs only [agR, Nat.reduceLeDiff, Nat.reduceSub, vaR, go_sem, ints, rows, rat, rats, ratsO, rtR, intsO, rowsO]
  simp -implicitDefEqProofs only [clR, Nat.reduceLeDiff, go_sem, evR, rat, rowsO, made_one, List.length_map]
  refine ⟨by omega, by omega, ?_⟩
  refine SemC.loopR (σ := Nat) (fun k => St.of [(2, .own 2), (5, .own 5), (6, .own 19), (7, .t (.i (runV g ot pl k))), (8, .t (.i k))] [(2, .box [nodes g.nd, rows g.w, rows g.v]), (5, .box [.i 0, .v (.slice none 0 0)]), (19, srch g ot pl (runB g ot pl k))]) (fun k => k ≤ g.w.length) (fun k => g.w.length - k) 0 (Weak.of _ _ [some 2, some 5, some 19] (by simp) (by simp) ?_ ?_) (by omega) fun k hk R hn hr he => ?_
  · simp -implicitDefEqProofs only [ints, rows, Nat.reduceBEq, wkR, Nat.reduceEqDiff, ↓reduceIte, wrR, nodes, runV, List.range_zero, List.map_nil, sumI]
  · refine ⟨⟨_, rfl, .refl _⟩, rfl, ⟨_, rfl, .refl _⟩, rfl, ⟨_, rfl, ?_⟩, rfl, trivial⟩
    refine .bc (.refl _) (.bc (.refl _) (.bc (.refl _) (.bc (.refl _) (.bc (.refl _) (.bc (.refl _) (.bc ?_ (.refl _)))))))
    exact Le.nilRows _
  · rcases Nat.lt_or_ge k g.w.length with h9 | h9
    · simp -implicitDefEqProofs only [go_sem, evR, ints, rows, rat, rats, srch, nodes, decide_eq_true (show (k : Int) < (g.w.length : Int) by omega)]
      refine SemC.loopR (σ := Nat) (fun b => St.of [(2, .own 2), (5, .own 5), (6, .own 19), (7, .t (.i (runV g ot pl k))), (8, .t (.i k)), (9, .own 77), (10, .t (.i b))] [(2, .box [nodes g.nd, rows g.w, rows g.v]), (5, .box [.i 0, .v (.slice none 0 0)]), (19, srch g ot pl (runB g ot pl k)), (77, .arr 1 (((reach0 g pl k).take b).map T.i))]) (fun b => b ≤ g.w.length) (fun b => g.w.length - b) 0 (Weak.of _ _ [some 2, some 5, some 19, some 38] (by simp) (by simp) ?_ ?_) (by omega) fun b hb R2 hn2 hr2 he2 => ?_
      · simp -implicitDefEqProofs only [ints, rows, Nat.reduceBEq, wkR, Nat.reduceEqDiff, ↓reduceIte, wrR, nodes, srch]
      · exact ⟨⟨_, rfl, .refl _⟩, rfl, ⟨_, rfl, .refl _⟩, rfl, ⟨_, rfl, .refl _⟩, rfl, ⟨_, rfl, .refl _⟩, rfl, trivial⟩
      · have hrl := reach0_length g pl k
        rcases Nat.lt_or_ge b g.w.length with h8 | h8
        · obtain ⟨u, v, r, y, d1, d2, d3, d4, d5, d6, d7⟩ := deal_w hg hpl h9 h8
          simp -implicitDefEqProofs only [go_sem, evR, ints, rows, rat, rats, srch, nodes, decide_eq_true (show (b : Int) < (g.w.length : Int) by omega)]
          refine CallW.ref (l24Deal_t g ot (runB g ot pl k) pl k b) [19] [] rfl Tryd.call91 (by simp) ?_ (by simp) ?_ (.inl rfl) ?_
          · simp -implicitDefEqProofs only [srR, Nat.reduceEqDiff, ↓reduceIte, ints, rows, intsO, rowsO]
          · simp -implicitDefEqProofs only [agR, Nat.reduceLeDiff, Nat.reduceSub, vaR, go_sem, ints, rows, rat, rats, ratsO, rtR, intsO, rowsO]
          simp -implicitDefEqProofs only [clR, Nat.reduceLeDiff, go_sem, evR, rat, d1, d2, d3, d4, ints]
          refine ⟨by omega, by omega, by omega, by omega, by omega, by omega, by rw [List.length_take]; omega, hn2 _ (b + 1) (Weak.of _ _ [some 2, some 5, some 19, some 63] (by simp) (by simp) ?_ ?_) (by omega) (by omega)⟩
          · simp -implicitDefEqProofs only [ints, rows, Nat.reduceBEq, wkR, Nat.reduceEqDiff, ↓reduceIte, wrR, nodes, srch, next64 h8 (by omega)]
          · refine ⟨⟨_, rfl, .refl _⟩, rfl, ⟨_, rfl, .refl _⟩, rfl, ⟨_, rfl, .refl _⟩, rfl, ⟨_, rfl, ?_⟩, rfl, trivial⟩
            rw [take_snoc d5, List.map_append]; exact .refl _
        · simp -implicitDefEqProofs only [go_sem, evR, ints, rows, rat, rats, srch, nodes, decide_eq_false (show ¬ (b : Int) < (g.w.length : Int) by omega)]
          refine he2 _ _ ?_
          simp -implicitDefEqProofs only [go_sem, evR, ints, rows, rat, rats, srch, nodes]
          rw [List.take_of_length_le (show (reach0 g pl k).length ≤ b by omega)]
          refine ⟨_, Weak.trans (Weak.share 77 rfl) (Weak.of [(2, .own 2), (5, .own 5), (6, .own 19), (7, .t (.i (runV g ot pl k))), (8, .t (.i k)), (9, .t (ints (reach0 g pl k)))] [(2, .box [nodes g.nd, rows g.w, rows g.v]), (5, .box [.i 0, .v (.slice none 0 0)]), (19, srch g ot pl (runB g ot pl k))] [some 2, some 5, some 19] (by simp) (by simp) ?_ ?_), ?_⟩
          · simp -implicitDefEqProofs only [ints, rows, Nat.reduceBEq, wkR, Nat.reduceEqDiff, ↓reduceIte, wrR, shareA, srch, nodes, T.toSh, T.toShL_eq_map, List.map_map]
            exact .inr (.inl rfl)
          · exact ⟨⟨_, rfl, .refl _⟩, rfl, ⟨_, rfl, .refl _⟩, rfl, ⟨_, rfl, .refl _⟩, rfl, trivial⟩
          · simp -implicitDefEqProofs only [go_sem, evR, ints, rows, rat, rats, srch, nodes]
            refine CallW.pure (dep_t (spec_l20Depth_ok t2 (by omega) g.nd.length 0 (by omega) (by omega) (by omega))) [] rfl Tryd.call40 ?_ (by first | trivial | simp [T.noSh, T.noShL, rat]) rfl ?_
            · simp -implicitDefEqProofs only [agR, Nat.reduceLeDiff, Nat.reduceSub, vaR, go_sem, ints, rows, rat, rats, ratsO, rtR, intsO, rowsO]
            simp -implicitDefEqProofs only [go_sem, evR, ints, rows, rat, rats]
            rw [u2]
            have hc := cap0 hg pl k
            have hcall := spec_l24Visit_ok hg hpl hot h9 g.nd.length 0 (reach0 g pl k) (dpt g) (runB g ot pl k) (by omega) (by omega) hrl hc.2 (by rw [dpt_eq]; exact Int.le_refl _) u3 hc.1 (runB_rows t2 ot pl k)
            rw [← runB_succ] at hcall
            simp only [srch, nodes, rows, ints] at hcall
            have hv1 := runV_abs hg hpl hot k
            have hv2 := runV_abs hg hpl hot (k + 1)
            have hcv : capV = 4199040000000 := rfl
            have hk6 : ((k + 1 : Nat) : Int) * capV ≤ 6 * capV := Int.mul_le_mul_of_nonneg_right (by omega) (by decide)
            rw [runV_succ] at hv2
            refine CallW.ref hcall [19] [] rfl Tryd.call92 (by simp) ?_ (by simp) ?_ (.inl rfl) ?_
            · simp -implicitDefEqProofs only [srR, Nat.reduceEqDiff, ↓reduceIte, ints, rows, intsO, rowsO]
            · simp -implicitDefEqProofs only [agR, Nat.reduceLeDiff, Nat.reduceSub, vaR, go_sem, ints, rows, rat, rats, ratsO, rtR, intsO, rowsO]
            simp -implicitDefEqProofs only [clR, Nat.reduceLeDiff, go_sem, evR, rat]
            refine hn _ (k + 1) (Weak.of _ _ [some 2, some 5, some 19] (by simp) (by simp) ?_ ?_) (by omega) (by omega)
            · simp -implicitDefEqProofs only [ints, rows, Nat.reduceBEq, wkR, Nat.reduceEqDiff, ↓reduceIte, wrR, srch, nodes, next64 h9 (by omega), wrap64 (n := runV g ot pl k + bestV g ot pl k g.nd.length 0 (reach0 g pl k) (dpt g)) (by omega) (by omega), runV_succ]
            · exact ⟨⟨_, rfl, .refl _⟩, rfl, ⟨_, rfl, .refl _⟩, rfl, ⟨_, rfl, .refl _⟩, rfl, trivial⟩
    · simp -implicitDefEqProofs only [go_sem, evR, ints, rows, rat, rats, srch, nodes, decide_eq_false (show ¬ (k : Int) < (g.w.length : Int) by omega)]
      refine he _ _ ?_
      simp -implicitDefEqProofs only [go_sem, evR, ints, rows, rat, rats]
      refine ⟨_, Weak.open 19 6 500 rfl rfl rfl (by decide) rfl, ?_⟩
      simp -implicitDefEqProofs only [go_sem, evR, ints, rows, rat, rats, List.lookup_cons, beq_self_eq_true, Nat.reduceBEq]
      rw [show k = g.w.length by omega]; rfl
end
end Go.Ab

/- Contracts: best responses, the program's. -/
set_option linter.unusedSimpArgs false
set_option linter.unusedVariables false
namespace Go.Ab
open Go.Proofs

def rbox (g : Gm) (ot : List (List Int)) (pl : Int) (card : Int) (B : List (List Int)) : T := .box [nodes g.nd, rows g.w, rows g.v, .i pl, .i card, ints (ownL g pl), ints (ownL g (1 - pl)), rows ot, .i pl, rowsO B]
def uS (g : Gm) (pl : Int) (i own : Nat) (reach : List Int) (k : Nat) : Int := sumI ((List.range k).map fun c => reach.getD c 0 * payP g pl i own c)
theorem uS_succ (g : Gm) (pl : Int) (i own : Nat) (reach : List Int) (k : Nat) : uS g pl i own reach (k + 1) = uS g pl i own reach k + reach.getD k 0 * payP g pl i own k := by
  unfold uS
  rw [List.range_succ, List.map_append, List.map_cons, List.map_nil, sumI_snoc]
theorem uS_abs {g : Gm} {pl : Int} {i own : Nat} {reach : List Int} {p : Nat} (hp : payOK g) (h0 : ∀ x ∈ reach, 0 ≤ x) (hc : capOK reach p) (k : Nat) : -(k * capV) ≤ uS g pl i own reach k ∧ uS g pl i own reach k ≤ k * capV := by
  unfold uS
  refine sumI_range_abs fun c _ => ?_
  obtain ⟨h1, h2⟩ := payP_abs hp pl i own c
  exact (term_abs h0 hc (c := c) h1 h2).2
theorem payoffAt_t {g : Gm} (hg : isGameB g = true) (i a b : Nat) (hi : i < g.nd.length) (ha : a < g.w.length) (hb : b < g.w.length) : Pure Tryd.prog 85 [.agg [.sh 5 (chunk nodeC g.nd), .sh 1 (g.w.map ints), .sh 1 (g.v.map ints)], .i i, .i a, .i b] (.i (pay g i a b)) := impl_payoffAt_ok g hg i a b hi ha hb
theorem capOK_less {reach : List Int} {p : Nat} (h0 : ∀ x ∈ reach, 0 ≤ x) (hc : capOK reach (p + 1)) : capOK reach p := by
  have h1 := sumI_nonneg h0
  have h2 := Int.mul_le_mul_of_nonneg_left (pw_le (show p ≤ p + 1 by omega)) h1
  unfold capOK at hc ⊢
  omega
section
attribute [-go_sem] load1C load1V fldC lenC idxC loadNV nilCheckW
set_option maxRecDepth 20000 in
theorem impl_respond_ok {g : Gm} {ot : List (List Int)} {pl : Int} {own : Nat} (hg : isGameB g = true) (hpl : pl = 0 ∨ pl = 1) (hot : partsOK g ot (1 - pl)) (hown : own < g.w.length) : ∀ (f i : Nat) (reach : List Int) (p : Nat) (B : List (List Int)), g.nd.length ≤ i + f → i < g.nd.length → reach.length = g.w.length → (∀ x ∈ reach, 0 ≤ x) → dep g.nd f i ≤ p → p ≤ 5 → capOK reach p → rows4 (sets g pl).length B →
    Fun Tryd.prog 79 [rbox g ot pl own B] [.own 1000000000, .t (.i i), .t (ints reach), .t (.i p)] fun o r => o = [rbox g ot pl own (bestB g ot pl own f i reach p B)] ∧ r = .i (bestV g ot pl own f i reach p) := by
  obtain ⟨p1, p2, p3, p4, p5⟩ := isGameB_parts hg
  obtain ⟨t1, t2, t3, t4⟩ := isTreeB_spec p1
  have hpay := payOK_of t2
  have hcv : capV = 4199040000000 := rfl
  intro f
  induction f with
  | zero => intro i reach p B h1 h2; omega
  | succ f ih =>
    intro i reach p B hf hi hrl hr0 hdp hp5 hcap hBl
    obtain ⟨x, hx⟩ : ∃ x, g.nd[i]? = some x := ⟨_, List.getElem?_eq_getElem hi⟩
    have hxd : g.nd.getD i nd0 = x := by rw [List.getD_eq_getElem?_getD, hx]; rfl
    have hxl := (ndOK_fields (t2 _ _ hx)).2.2.2.2.2
    have hB2 : x.p = 2 → bestB g ot pl own (f + 1) i reach p B = B := fun h => by rw [bestB]; simp only [hxd]; rw [if_pos h]
    have hV2 : x.p = 2 → bestV g ot pl own (f + 1) i reach p = uS g pl i own reach reach.length * pw p := fun h => by rw [bestV]; simp only [hxd]; rw [if_pos h]; rfl
    have hB1 : x.p ≠ 2 → x.p = pl → bestB g ot pl own (f + 1) i reach p B = (x.ch.foldl (fun B c => bestB g ot pl own f c.toNat reach p B) B).set (setI g pl i own) ((List.replicate x.ch.length 0).set (argmax (x.ch.map fun c => bestV g ot pl own f c.toNat reach p)) 60) := fun h h' => by rw [bestB]; simp only [hxd]; rw [if_neg h, if_pos h']
    have hV1 : x.p ≠ 2 → x.p = pl → bestV g ot pl own (f + 1) i reach p = (x.ch.map fun c => bestV g ot pl own f c.toNat reach p).getD (argmax (x.ch.map fun c => bestV g ot pl own f c.toNat reach p)) 0 := fun h h' => by rw [bestV]; simp only [hxd]; rw [if_neg h, if_pos h']
    have hB0 : x.p ≠ 2 → x.p ≠ pl → bestB g ot pl own (f + 1) i reach p B = (List.range x.ch.length).foldl (fun B k => bestB g ot pl own f (x.ch.getD k 0).toNat (nextR g ot pl i reach k) (p - 1) B) B := fun h h' => by rw [bestB]; simp only [hxd]; rw [if_neg h, if_neg h']
    have hV0 : x.p ≠ 2 → x.p ≠ pl → bestV g ot pl own (f + 1) i reach p = sumI ((List.range x.ch.length).map fun k => bestV g ot pl own f (x.ch.getD k 0).toNat (nextR g ot pl i reach k) (p - 1)) := fun h h' => by rw [bestV]; simp only [hxd]; rw [if_neg h, if_neg h']
    generalize bestB g ot pl own (f + 1) i reach p B = B' at hB2 hB1 hB0 ⊢
    generalize bestV g ot pl own (f + 1) i reach p = V' at hV2 hV1 hV0 ⊢
    refine fun___impl_responder__respond_h (by simp) ?_
    simp -implicitDefEqProofs only [go_sem, evR, ints, rows, rat, rats, c___impl_responder__respond_h, rbox, nodes, nd_at hx]
    refine ⟨by omega, by rw [nd_len]; omega, by rw [nd_len]; omega, ?_⟩
    refine ⟨fun h2 => ?_, fun h2 => ?_⟩
    · have h2 : x.p = 2 := by simpa using h2
      rw [hB2 h2, hV2 h2]
      refine SemC.loopR (σ := Nat) (fun k => St.of [(0, .own 1000000000), (1, .t (.i i)), (2, .t (ints reach)), (3, .t (.i p)), (10, .t (.i (uS g pl i own reach k))), (38, .t (ints reach)), (39, .t (.i reach.length)), (40, .t (.i k))] [(1000000000, rbox g ot pl own B)]) (fun k => k ≤ reach.length) (fun k => reach.length - k) 0 (Weak.of _ _ [some 1000000000] (by simp) (by simp) ?_ ?_) (by omega) fun k hk R hn hr he => ?_
      · simp -implicitDefEqProofs only [ints, rows, Nat.reduceBEq, wkR, Nat.reduceEqDiff, ↓reduceIte, wrR, show uS g pl i own reach 0 = 0 by simp [uS, sumI]]
      · exact ⟨⟨_, rfl, .refl _⟩, rfl, trivial⟩
      · have m5 := uS_abs (pl := pl) (i := i) (own := own) hpay hr0 hcap k
        have m7 : (k : Int) * capV ≤ 6 * capV := Int.mul_le_mul_of_nonneg_right (by omega) (by decide)
        rcases Nat.lt_or_ge k reach.length with h9 | h9
        · obtain ⟨y, hy⟩ : ∃ y, reach[k]? = some y := ⟨_, List.getElem?_eq_getElem h9⟩
          have hyd : reach.getD k 0 = y := by rw [List.getD_eq_getElem?_getD, hy]; rfl
          obtain ⟨q1, q2⟩ := payP_abs hpay pl i own k
          obtain ⟨_, m3, m4⟩ := term_abs hr0 hcap (c := k) q1 q2
          have m6 := uS_succ g pl i own reach k
          rw [hyd] at m3 m4 m6
          simp -implicitDefEqProofs only [go_sem, evR, ints, rows, rat, rats, rbox, nodes, hy, decide_eq_true (show (k : Int) < (reach.length : Int) by omega)]
          refine ⟨by omega, by omega, by omega, fun h5 => ?_, fun h5 => ?_⟩
          · have h5 : pl = 0 := by simpa using h5
            have hP : payP g pl i own k = pay g i own k := by rw [payP, if_pos h5]
            rw [hP] at m3 m4 m6 q1 q2
            refine CallV.pure (payoffAt_t hg i own k hi hown (by omega)) [] rfl Tryd.call85 (fun e R' hR => ?_) (by first | trivial | simp [T.noSh, T.noShL, rat]) (fun _ => rfl) ?_
            · simp -implicitDefEqProofs only [agR, Nat.reduceLeDiff, Nat.reduceSub, vaR, go_sem, ints, rows, rat, rats, ratsO, rtR, intsO, rowsO]
            simp -implicitDefEqProofs only [go_sem, evR, ints, rows, rat, rats]
            refine hn _ (k + 1) (Weak.of _ _ [some 1000000000] (by simp) (by simp) ?_ ?_) (by omega) (by omega)
            · simp -implicitDefEqProofs only [ints, rows, Nat.reduceBEq, wkR, Nat.reduceEqDiff, ↓reduceIte, wrR, rbox, nodes, next64 h9 (by omega), wrap64 (n := y * pay g i own k) (by omega) (by omega), ← m6, wrap64 (n := uS g pl i own reach (k + 1)) (by omega) (by omega)]
            · exact ⟨⟨_, rfl, .refl _⟩, rfl, trivial⟩
          · have h5 : ¬ pl = 0 := by simpa using h5
            have hP : payP g pl i own k = -pay g i k own := by rw [payP, if_neg h5]
            rw [hP] at m3 m4 m6 q1 q2
            rw [Int.mul_neg] at m3 m4 m6
            refine CallV.pure (payoffAt_t hg i k own hi (by omega) hown) [] rfl Tryd.call85 (fun e R' hR => ?_) (by first | trivial | simp [T.noSh, T.noShL, rat]) (fun _ => rfl) ?_
            · simp -implicitDefEqProofs only [agR, Nat.reduceLeDiff, Nat.reduceSub, vaR, go_sem, ints, rows, rat, rats, ratsO, rtR, intsO, rowsO]
            simp -implicitDefEqProofs only [go_sem, evR, ints, rows, rat, rats]
            refine hn _ (k + 1) (Weak.of _ _ [some 1000000000] (by simp) (by simp) ?_ ?_) (by omega) (by omega)
            · simp -implicitDefEqProofs only [ints, rows, Nat.reduceBEq, wkR, Nat.reduceEqDiff, ↓reduceIte, wrR, rbox, nodes, next64 h9 (by omega), wrap64 (n := y * pay g i k own) (by omega) (by omega), Int.sub_eq_add_neg, ← m6, wrap64 (n := uS g pl i own reach (k + 1)) (by omega) (by omega)]
            · exact ⟨⟨_, rfl, .refl _⟩, rfl, trivial⟩
        · simp -implicitDefEqProofs only [go_sem, evR, ints, rows, rat, rats, rbox, nodes, decide_eq_false (show ¬ (k : Int) < (reach.length : Int) by omega)]
          refine he _ _ ?_
          simp -implicitDefEqProofs only [go_sem, evR, ints, rows, rat, rats]
          have hke : k = reach.length := by omega
          have m8 := tS_abs (pl := pl) (i := i) (own := own) hpay hr0 hcap reach.length
          have m9 : (reach.length : Int) * capV ≤ 6 * capV := Int.mul_le_mul_of_nonneg_right (by omega) (by decide)
          have m10 : tS g pl i own reach p reach.length = uS g pl i own reach reach.length * pw p := rfl
          refine CallW.pure (impl_powerOf_ok p (by omega)) [] rfl Tryd.call55 ?_ (by first | trivial | simp [T.noSh, T.noShL, rat]) rfl ?_
          · simp -implicitDefEqProofs only [agR, Nat.reduceLeDiff, Nat.reduceSub, vaR, go_sem, ints, rows, rat, rats, ratsO, rtR, intsO, rowsO]
          simp -implicitDefEqProofs only [go_sem, evR, ints, rows, rat, rats]
          rw [hke, wrap64 (n := uS g pl i own reach reach.length * pw p) (by omega) (by omega)]
    have h2 : x.p ≠ 2 := by simpa using h2
    have hp2 : (g.nd.getD i nd0).p ≠ 2 := by rw [hxd]; exact h2
    obtain ⟨d1, d2⟩ := dep_child (f := f) hp2
    rw [hxd] at d2
    have hch := ndOK_child (t2 _ _ hx)
    have hset : setI g pl i own = (idxs g.nd pl i).length * g.w.length + own := rfl
    have hp1 : 1 ≤ p := by omega
    obtain ⟨p', rfl⟩ : ∃ p', p = p' + 1 := ⟨p - 1, by omega⟩
    have hcapl := capOK_less hr0 hcap
    refine ⟨fun h3 => ?_, fun h3 => ?_⟩
    · have h3 : x.p = pl := by simpa using h3
      have hpd : (g.nd.getD i nd0).p = pl := by rw [hxd]; exact h3
      have hVm : (x.ch.map fun c => bestV g ot pl own f c.toNat reach (p' + 1)) = (x.ch.map fun c => bestV g ot pl own f c.toNat reach p').map fun x => 60 * x := by
        rw [List.map_map]
        exact List.map_congr_left fun c hc => bestV_scale f c.toNat reach p' (by have := d2 c hc; omega)
      have hBm : (x.ch.foldl (fun B c => bestB g ot pl own f c.toNat reach (p' + 1) B) B) = x.ch.foldl (fun B c => bestB g ot pl own f c.toNat reach p' B) B := foldl_congr' _ _ fun B c hc => bestB_scale f c.toNat reach p' B (by have := d2 c hc; omega)
      have hB1 := hB1 h2 h3
      have hV1 := hV1 h2 h3
      rw [hVm, argmax_scale, getD_map60] at hV1
      rw [hVm, argmax_scale, hBm] at hB1
      generalize hF : (fun (B : List (List Int)) (c : Int) => bestB g ot pl own f c.toNat reach p' B) = F at hB1
      generalize hvs : (x.ch.map fun c => bestV g ot pl own f c.toNat reach p') = vs at hB1 hV1
      have hvl : vs.length = x.ch.length := by rw [← hvs, List.length_map]
      have hvb : ∀ y ∈ vs, -capV ≤ y ∧ y ≤ capV := fun y hy => by
        rw [← hvs] at hy
        obtain ⟨c, hcm, rfl⟩ := List.mem_map.1 hy
        have hcb := hch c hcm
        have hcd := d2 c hcm
        exact bestV_cap t2 hpl hot (by omega) hrl hr0 (by omega) hcapl
      rw [hB1, hV1]
      refine SemC.loopR (σ := Nat) (fun k => St.of [(0, .own 1000000000), (1, .t (.i i)), (2, .t (ints reach)), (3, .t (.i (p' + 1 : Nat))), (9, .own 9), (13, .t (.i (argmax.go k vs))), (14, .t (.i (cntA vs k))), (92, .t (ints x.ch)), (93, .t (.i x.ch.length)), (94, .t (.i k))] [(9, .box [.i x.p, .i x.a, .i x.b, .i x.f, ints x.ch]), (1000000000, rbox g ot pl own ((x.ch.take k).foldl F B))]) (fun k => k ≤ x.ch.length) (fun k => x.ch.length - k) 0 (Weak.of _ _ [some 9, some 1000000000] (by simp) (by simp) ?_ ?_) (by omega) fun k hk R hn hr he => ?_
      · simp -implicitDefEqProofs only [ints, rows, Nat.reduceBEq, wkR, Nat.reduceEqDiff, ↓reduceIte, wrR, show cntA vs 0 = 0 from rfl, show argmax.go 0 vs = 0 from rfl]
      · exact ⟨⟨_, rfl, .refl _⟩, rfl, ⟨_, rfl, .refl _⟩, rfl, trivial⟩
      · rcases Nat.lt_or_ge k x.ch.length with h9 | h9
        · obtain ⟨c, hc⟩ : ∃ c, x.ch[k]? = some c := ⟨_, List.getElem?_eq_getElem h9⟩
          have hcm := List.mem_of_getElem? hc
          have hcb := hch c hcm
          have hcd := d2 c hcm
          have hrow : rows4 (sets g pl).length ((x.ch.take k).foldl F B) := by
            refine foldl_inv (rows4 (sets g pl).length) _ _ hBl fun B' c' _ hB' => ?_
            rw [← hF]; exact bestB_rows t2 f _ _ _ _ hB'
          have hcall := ih c.toNat reach p' ((x.ch.take k).foldl F B) (by omega) (by omega) hrl hr0 (by omega) (by omega) hcapl hrow
          rw [show ((c.toNat : Nat) : Int) = c by omega, show bestB g ot pl own f c.toNat reach p' ((x.ch.take k).foldl F B) = (x.ch.take (k + 1)).foldl F B by rw [foldl_snoc F x.ch B hc, ← hF]] at hcall
          have hvk : vs[k]? = some (bestV g ot pl own f c.toNat reach p') := by rw [← hvs, List.getElem?_map, hc]; rfl
          obtain ⟨g1, g2⟩ := go_take hvk
          generalize bestV g ot pl own f c.toNat reach p' = n at hcall hvk g1 g2
          simp only [rbox, nodes, rows, ints] at hcall
          simp -implicitDefEqProofs only [go_sem, evR, ints, rows, rat, rats, rbox, nodes, hc, decide_eq_true (show (k : Int) < (x.ch.length : Int) by omega)]
          refine ⟨by omega, by omega, by omega, ?_⟩
          rw [wrap64 (n := ((p' + 1 : Nat) : Int) - 1) (by omega) (by omega), show ((p' + 1 : Nat) : Int) - 1 = (p' : Int) by omega]
          refine CallW.ref hcall [1000000000] [] rfl Tryd.call79 (by simp) ?_ (by simp) ?_ (.inl rfl) ?_
          · simp -implicitDefEqProofs only [srR, Nat.reduceEqDiff, ↓reduceIte, ints, rows, intsO, rowsO]
          · simp -implicitDefEqProofs only [agR, Nat.reduceLeDiff, Nat.reduceSub, vaR, go_sem, ints, rows, rat, rats, ratsO, rtR, intsO, rowsO]
          simp -implicitDefEqProofs only [clR, Nat.reduceLeDiff, go_sem, evR, rat]
          refine ⟨fun h0 => ⟨fun h1 => ?_, fun h1 => ?_⟩, fun h0 => ?_⟩
          · rw [if_pos (.inr h1)] at g1 g2
            refine hn _ (k + 1) (Weak.of _ _ [some 9, some 1000000000] (by simp) (by simp) ?_ ?_) (by omega) (by omega)
            · simp -implicitDefEqProofs only [ints, rows, Nat.reduceBEq, wkR, Nat.reduceEqDiff, ↓reduceIte, wrR, next64 h9 (by omega), g1, g2]
            · exact ⟨⟨_, rfl, .refl _⟩, rfl, ⟨_, rfl, .refl _⟩, rfl, trivial⟩
          · rw [if_neg (by rintro (h | h); (· rw [h] at h0; simp at h0); (· exact h1 h))] at g1 g2
            refine hn _ (k + 1) (Weak.of _ _ [some 9, some 1000000000] (by simp) (by simp) ?_ ?_) (by omega) (by omega)
            · simp -implicitDefEqProofs only [ints, rows, Nat.reduceBEq, wkR, Nat.reduceEqDiff, ↓reduceIte, wrR, next64 h9 (by omega), g1, g2]
            · exact ⟨⟨_, rfl, .refl _⟩, rfl, ⟨_, rfl, .refl _⟩, rfl, trivial⟩
          · rw [if_pos (.inl (by simpa using h0))] at g1 g2
            refine hn _ (k + 1) (Weak.of _ _ [some 9, some 1000000000] (by simp) (by simp) ?_ ?_) (by omega) (by omega)
            · simp -implicitDefEqProofs only [ints, rows, Nat.reduceBEq, wkR, Nat.reduceEqDiff, ↓reduceIte, wrR, next64 h9 (by omega), g1, g2]
            · exact ⟨⟨_, rfl, .refl _⟩, rfl, ⟨_, rfl, .refl _⟩, rfl, trivial⟩
        · simp -implicitDefEqProofs only [go_sem, evR, ints, rows, rat, rats, rbox, nodes, decide_eq_false (show ¬ (k : Int) < (x.ch.length : Int) by omega)]
          refine he _ _ ?_
          simp -implicitDefEqProofs only [go_sem, evR, ints, rows, rat, rats, rbox, nodes]
          have hke : k = x.ch.length := by omega
          have hcl1 : 1 ≤ x.ch.length := ((ndOK_fields (t2 _ _ hx)).2.2.2.2.1 h2).2
          have hgl := argmax_go_lt vs k (by omega)
          have hge : argmax.go k vs = argmax vs := by rw [argmax_eq, hvl, hke]
          rw [made_one, List.length_replicate]
          refine ⟨by omega, by omega, by omega, by omega, by omega, ?_⟩
          rw [show x.ch.take k = x.ch by rw [hke, List.take_length]]
          have hrowA : rows4 (sets g pl).length (x.ch.foldl F B) := by
            refine foldl_inv (rows4 (sets g pl).length) _ _ hBl fun B' c' _ hB' => ?_
            rw [← hF]; exact bestB_rows t2 f _ _ _ _ hB'
          have hslt := setI_lt (pl := pl) hi hown hpd
          have hsl := sets_len g pl t1.2 p2.2
          have hrl1 := hrowA.1
          have hoi := ownL_get hi hpd
          have hol := ownL_length g pl
          refine ⟨_, Weak.open 1000000000 9 500 rfl rfl rfl (by decide) rfl, ?_⟩
          simp -implicitDefEqProofs only [go_sem, evR, ints, rows, rat, rats, List.lookup_cons, beq_self_eq_true, Nat.reduceBEq, rowsO, hoi, wrap64 (n := ((setI g pl i own : Nat) : Int)) (by omega) (by omega), show (((idxs g.nd pl i).length * g.w.length : Nat) : Int) + (own : Int) = ((setI g pl i own : Nat) : Int) by omega]
          refine ⟨by omega, by omega, by omega, by omega, by omega, by omega, ?_⟩
          refine ⟨_, Weak.join2 Tryd.prog tyOne (sl 125) (sl 126) rfl rfl rfl rfl (by decide) (by simp), ?_⟩
          simp -implicitDefEqProofs only [go_sem, evR, ints, rows, rat, rats]
          have hcn : cntA vs k = vs.getD (argmax vs) 0 := by rw [cntA, if_neg (by omega), hge]
          have hvm : -capV ≤ vs.getD (argmax vs) 0 ∧ vs.getD (argmax vs) 0 ≤ capV := hvb _ (getD_mem 0 (by omega))
          refine ⟨?_, ?_⟩
          · rw [List.map_set, intsO, List.map_set, List.map_replicate, hge]
          · rw [hcn, wrap64 (n := vs.getD (argmax vs) 0 * 60) (by omega) (by omega), Int.mul_comm]
    · have h3 : x.p ≠ pl := by simpa using h3
      have hpo : x.p = 1 - pl := by
        obtain ⟨⟨q1, q2⟩, _⟩ := ndOK_fields (t2 _ _ hx)
        omega
      have hpd : (g.nd.getD i nd0).p = 1 - pl := by rw [hxd]; exact hpo
      generalize hF : (fun (B : List (List Int)) (k : Nat) => bestB g ot pl own f (x.ch.getD k 0).toNat (nextR g ot pl i reach k) (p' + 1 - 1) B) = F at hB0
      generalize hG : (fun k => bestV g ot pl own f (x.ch.getD k 0).toNat (nextR g ot pl i reach k) (p' + 1 - 1)) = G at hV0
      rw [hB0 h2 h3, hV0 h2 h3]
      refine SemC.loopR (σ := Nat) (fun k => St.of [(0, .own 1000000000), (1, .t (.i i)), (2, .t (ints reach)), (3, .t (.i (p' + 1 : Nat))), (19, .t (.i (sumI ((List.range k).map G)))), (144, .t (ints x.ch)), (145, .t (.i x.ch.length)), (146, .t (.i k))] [(1000000000, rbox g ot pl own ((List.range k).foldl F B))]) (fun k => k ≤ x.ch.length) (fun k => x.ch.length - k) 0 (Weak.of _ _ [some 1000000000] (by simp) (by simp) ?_ ?_) (by omega) fun k hk R hn hr he => ?_
      · simp -implicitDefEqProofs only [ints, rows, Nat.reduceBEq, wkR, Nat.reduceEqDiff, ↓reduceIte, wrR, List.range_zero, List.map_nil, show sumI [] = 0 from rfl]
      · exact ⟨⟨_, rfl, .refl _⟩, rfl, trivial⟩
      · rcases Nat.lt_or_ge k x.ch.length with h9 | h9
        · obtain ⟨c, hc⟩ : ∃ c, x.ch[k]? = some c := ⟨_, List.getElem?_eq_getElem h9⟩
          simp -implicitDefEqProofs only [go_sem, evR, ints, rows, rat, rats, rbox, nodes, hc, made_one, decide_eq_true (show (k : Int) < (x.ch.length : Int) by omega)]
          have hnl : (nextR g ot pl i reach k).length = reach.length := nextR_length _ _ _ _ _ _
          refine ⟨by omega, by omega, by omega, by omega, by omega, ?_⟩
          refine SemC.loopR (σ := Nat) (fun b => St.of [(0, .own 1000000000), (1, .t (.i i)), (2, .t (ints reach)), (3, .t (.i (p' + 1 : Nat))), (19, .t (.i (sumI ((List.range k).map G)))), (20, .t (.i k)), (21, .t (.i c)), (22, .own 77), (144, .t (ints x.ch)), (145, .t (.i x.ch.length)), (146, .t (.i k)), (154, .t (ints reach)), (155, .t (.i reach.length)), (156, .t (.i b))] [(77, .arr 1 (filled (nextR g ot pl i reach k) T.i (.i 0) b)), (1000000000, rbox g ot pl own ((List.range k).foldl F B))]) (fun b => b ≤ reach.length) (fun b => reach.length - b) 0 (Weak.of _ _ [some 153, some 1000000000] (by simp) (by simp) ?_ ?_) (by omega) fun b hb R2 hn2 hr2 he2 => ?_
          · simp -implicitDefEqProofs only [ints, rows, Nat.reduceBEq, wkR, Nat.reduceEqDiff, ↓reduceIte, wrR, rbox, nodes]
          · refine ⟨⟨_, rfl, ?_⟩, rfl, ⟨_, rfl, .refl _⟩, rfl, trivial⟩
            rw [filled_zero, hnl]; exact .refl _
          · have hfl := filled_length (nextR g ot pl i reach k) T.i (.i 0) b (by omega)
            rcases Nat.lt_or_ge b reach.length with h8 | h8
            · obtain ⟨y, hy⟩ : ∃ y, reach[b]? = some y := ⟨_, List.getElem?_eq_getElem h8⟩
              obtain ⟨o1, o2, o3⟩ := hot i b hi (by omega) hpd
              obtain ⟨r, hr1⟩ : ∃ r, ot[setI g (1 - pl) i b]? = some r := by
                cases h : ot[setI g (1 - pl) i b]? with
                | some r => exact ⟨r, rfl⟩
                | none =>
                  rw [partsOf, List.getD_eq_getElem?_getD, h, hxd] at o1
                  simp at o1
                  omega
              have hrp : partsOf g ot (1 - pl) i b = r := by rw [partsOf, List.getD_eq_getElem?_getD, hr1]; rfl
              rw [hrp] at o1 o2
              rw [hxd] at o1
              obtain ⟨y2, hy2⟩ : ∃ y2, r[k]? = some y2 := ⟨_, List.getElem?_eq_getElem (by omega)⟩
              have hy2b := o2 y2 (List.mem_of_getElem? hy2)
              have hslt := (List.getElem?_eq_some_iff.1 hr1).1
              have hyb : 0 ≤ y ∧ y ≤ 41990400000 := by
                have h1 := reach_pos hr0 b
                rw [List.getD_eq_getElem?_getD, hy] at h1
                have h2 := pw_pos p'
                have h3 := sumI_nonneg hr0
                have h4 := Int.mul_le_mul_of_nonneg_left (show (1 : Int) ≤ pw p' by omega) h3
                unfold capOK at hcapl
                simp only [Option.getD_some] at h1
                omega
              have hm1 := Int.mul_nonneg hyb.1 hy2b.1
              have hm2 : y * y2 ≤ 41990400000 * 60 := Int.mul_le_mul hyb.2 hy2b.2 hy2b.1 (by decide)
              have hnx : (nextR g ot pl i reach k)[b]? = some (y * y2) := by
                rw [nextR, List.getElem?_map, List.getElem?_range (by omega), Option.map_some, hrp, List.getD_eq_getElem?_getD, hy, List.getD_eq_getElem?_getD, hy2]; rfl
              have hoi := ownL_get hi hpd
              have hol := ownL_length g (1 - pl)
              have hset : setI g (1 - pl) i b = (idxs g.nd (1 - pl) i).length * g.w.length + b := rfl
              have hsl := sets_len g (1 - pl) t1.2 p2.2
              have hsi := setI_lt (g := g) (pl := 1 - pl) hi (show b < g.w.length by omega) hpd
              simp -implicitDefEqProofs only [go_sem, evR, ints, rows, rat, rats, rbox, nodes, hy, hoi, hr1, hy2, hfl, decide_eq_true (show (b : Int) < (reach.length : Int) by omega), wrap64 (n := ((setI g (1 - pl) i b : Nat) : Int)) (by omega) (by omega), show (((idxs g.nd (1 - pl) i).length * g.w.length : Nat) : Int) + (b : Int) = ((setI g (1 - pl) i b : Nat) : Int) by omega]
              refine ⟨by omega, by omega, by omega, by omega, by omega, by omega, by omega, by omega, by omega, by omega, by omega, by omega, by omega, by omega, by omega, hn2 _ (b + 1) (Weak.of _ _ [some 77, some 1000000000] (by simp) (by simp) ?_ ?_) (by omega) (by omega)⟩
              · simp -implicitDefEqProofs only [ints, rows, Nat.reduceBEq, wkR, Nat.reduceEqDiff, ↓reduceIte, wrR, rbox, nodes, next64 h8 (by omega)]
              · refine ⟨⟨_, rfl, ?_⟩, rfl, ⟨_, rfl, .refl _⟩, rfl, trivial⟩
                rw [wrap64 (n := y * y2) (by omega) (by omega), filled_set hnx]; exact .refl _
            · simp -implicitDefEqProofs only [go_sem, evR, ints, rows, rat, rats, rbox, nodes, decide_eq_false (show ¬ (b : Int) < (reach.length : Int) by omega)]
              refine he2 _ _ ?_
              simp -implicitDefEqProofs only [go_sem, evR, ints, rows, rat, rats, rbox, nodes]
              have hbl : b = (nextR g ot pl i reach k).length := by omega
              rw [hbl, filled_all]
              refine ⟨_, Weak.trans (Weak.share 77 rfl) (Weak.of [(0, .own 1000000000), (1, .t (.i i)), (2, .t (ints reach)), (3, .t (.i (p' + 1 : Nat))), (19, .t (.i (sumI ((List.range k).map G)))), (20, .t (.i k)), (21, .t (.i c)), (22, .t (ints (nextR g ot pl i reach k))), (144, .t (ints x.ch)), (145, .t (.i x.ch.length)), (146, .t (.i k))] [(1000000000, rbox g ot pl own ((List.range k).foldl F B))] [some 1000000000] (by simp) (by simp) ?_ ?_), ?_⟩
              · simp -implicitDefEqProofs only [ints, rows, Nat.reduceBEq, wkR, Nat.reduceEqDiff, ↓reduceIte, wrR, shareA, rbox, nodes, T.toSh, T.toShL_eq_map, List.map_map]
                exact .inr (.inl rfl)
              · exact ⟨⟨_, rfl, .refl _⟩, rfl, trivial⟩
              · simp -implicitDefEqProofs only [go_sem, evR, ints, rows, rat, rats, rbox, nodes, hc]
                have hcm := List.mem_of_getElem? hc
                have hcb := hch c hcm
                have hcd := d2 c hcm
                have hcd0 : x.ch.getD k 0 = c := by rw [List.getD_eq_getElem?_getD, hc]; rfl
                have hch1 : ∀ j, j < x.ch.length → -capV ≤ G j ∧ G j ≤ capV := fun j hj => by
                  have hmj := getD_mem (0 : Int) hj
                  have hjb := hch _ hmj
                  have hjd := d2 _ hmj
                  rw [← hG]
                  exact bestV_cap t2 hpl hot (by omega) (by rw [nextR_length]; exact hrl) (nextR_nonneg hot hi hrl hpd hr0 j) (by omega) (capOK_next hot hi hrl hpd hr0 hcap (by rw [hxd]; exact hj))
                have hs1 := sumI_range_abs (G := G) (c := capV) (n := k) fun j hj => hch1 j (by omega)
                have hs2 := hch1 k h9
                have hk4 : (k : Int) * capV ≤ 4 * capV := Int.mul_le_mul_of_nonneg_right (by omega) (by decide)
                have hrow : rows4 (sets g pl).length ((List.range k).foldl F B) := by
                  refine foldl_inv (rows4 (sets g pl).length) _ _ hBl fun B' c' _ hB' => ?_
                  rw [← hF]; exact bestB_rows t2 f _ _ _ _ hB'
                have hcall := ih c.toNat (nextR g ot pl i reach k) p' ((List.range k).foldl F B) (by omega) (by omega) (by omega) (nextR_nonneg hot hi hrl hpd hr0 k) (by omega) (by omega) (capOK_next hot hi hrl hpd hr0 hcap (by rw [hxd]; omega)) hrow
                rw [show ((c.toNat : Nat) : Int) = c by omega, show bestB g ot pl own f c.toNat (nextR g ot pl i reach k) p' ((List.range k).foldl F B) = (List.range (k + 1)).foldl F B by rw [List.range_succ, List.foldl_append, ← hF, List.foldl_cons, List.foldl_nil]; simp only [hcd0, Nat.add_sub_cancel], show bestV g ot pl own f c.toNat (nextR g ot pl i reach k) p' = G k by rw [← hG]; simp only [hcd0, Nat.add_sub_cancel]] at hcall
                have hsg : sumI ((List.range (k + 1)).map G) = sumI ((List.range k).map G) + G k := by rw [List.range_succ, List.map_append, List.map_cons, List.map_nil, sumI_snoc]
                simp only [rbox, nodes, rows, ints] at hcall
                rw [wrap64 (n := ((p' + 1 : Nat) : Int) - 1) (by omega) (by omega), show ((p' + 1 : Nat) : Int) - 1 = (p' : Int) by omega]
                refine CallW.ref hcall [1000000000] [] rfl Tryd.call79 (by simp) ?_ (by simp) ?_ (.inl rfl) ?_
                · simp -implicitDefEqProofs only [srR, Nat.reduceEqDiff, ↓reduceIte, ints, rows, intsO, rowsO]
                · simp -implicitDefEqProofs only [agR, Nat.reduceLeDiff, Nat.reduceSub, vaR, go_sem, ints, rows, rat, rats, ratsO, rtR, intsO, rowsO]
                simp -implicitDefEqProofs only [clR, Nat.reduceLeDiff, go_sem, evR, rat]
                refine hn _ (k + 1) (Weak.of _ _ [some 1000000000] (by simp) (by simp) ?_ ?_) (by omega) (by omega)
                · simp -implicitDefEqProofs only [ints, rows, Nat.reduceBEq, wkR, Nat.reduceEqDiff, ↓reduceIte, wrR, rbox, nodes, next64 h9 (by omega), hsg, wrap64 (n := sumI ((List.range k).map G) + G k) (by omega) (by omega)]
                · refine ⟨⟨_, rfl, ?_⟩, rfl, trivial⟩
                  rw [List.range_succ]; exact .refl _
        · simp -implicitDefEqProofs only [go_sem, evR, ints, rows, rat, rats, rbox, nodes, decide_eq_false (show ¬ (k : Int) < (x.ch.length : Int) by omega)]
          refine he _ _ ?_
          simp -implicitDefEqProofs only [go_sem, evR, ints, rows, rat, rats]
          rw [show k = x.ch.length by omega]
          exact ⟨rfl, rfl⟩
end
end Go.Ab

/- Contracts: the best number and the first best response, the program's. -/
set_option linter.unusedSimpArgs false
set_option linter.unusedVariables false
namespace Go.Ab
open Go.Proofs

theorem idxs_lt' {l : List Nd} {pl : Int} {j : Nat} {y : Int} (h : (idxs l pl l.length)[j]? = some y) : ∃ i : Nat, y = i ∧ i < l.length := by
  obtain ⟨i, h1, h2, _⟩ := idxs_mem (List.mem_of_getElem? h)
  exact ⟨i, h1, h2⟩
theorem mergeR_at (m : List Nat) (R R' : Nat → Root) (r : Nat) : mergeR m R R' r = if m.any (fun d => decide (r = d) || decide (r / 1000 = d + 1)) then R r else R' r := rfl
def rbox0 (g : Gm) (ot : List (List Int)) (pl : Int) (a b : List Int) : T := .box [nodes g.nd, rows g.w, rows g.v, .i pl, .i 0, intsO a, intsO b, rows ot, .i 0, .v (.slice none 0 0)]
def rbox1 (g : Gm) (ot : List (List Int)) (pl : Int) (B : List (List Int)) : T := .box [nodes g.nd, rows g.w, rows g.v, .i pl, .any, ints (ownL g pl), ints (ownL g (1 - pl)), rows ot, .i pl, rowsO B]
section
attribute [-go_sem] load1C load1V fldC lenC idxC loadNV nilCheckW
set_option maxRecDepth 20000 in
theorem impl_bestAgainst_ok {g : Gm} {ot : List (List Int)} {pl : Int} (hg : isGameB g = true) (hpl : pl = 0 ∨ pl = 1) (hot : partsOK g ot (1 - pl)) : Fun Tryd.prog 70 [] [.t (gameT g), .t (stratT (1 - pl, ot))] fun o r => o = [] ∧ r = runT g ot pl := by
  obtain ⟨p1, p2, p3, p4, p5⟩ := isGameB_parts hg
  obtain ⟨t1, t2, t3, t4⟩ := isTreeB_spec p1
  obtain ⟨u1, u2, u3, u4, u5, u6, u7⟩ := game_unit hg
  have hsl := sets_len g pl t1.2 p2.2
  have hsl2 := sets_length g pl
  have hrv := runV_abs (n := g.w.length) hg hpl hot
  have hil := idxs_length g.nd pl g.nd.length
  have hil2 := idxs_length g.nd (1 - pl) g.nd.length
  have hmul : ∀ n : Nat, n ≤ g.nd.length → n * g.w.length ≤ 60 * 6 := fun n hn => Nat.mul_le_mul (by omega) p2.2
  refine fun_impl_bestAgainst_h (by simp) ?_
  simp -implicitDefEqProofs only [go_sem, evR, ints, rows, rat, rats, c_impl_bestAgainst_h, gameT, stratT, nodes, made_one]
  rw [wrap64 (n := 1 - (1 - pl)) (by omega) (by omega), show 1 - (1 - pl) = pl by omega]
  refine ⟨by omega, by omega, by omega, by omega, ?_⟩
  refine ⟨?_, ((frameOK.refl _ _ _).upd _ (.inl (by simp))).upd _ (.inl (by simp))⟩
  simp -implicitDefEqProofs only [go_sem, evR, ints, rows, rat, rats, mergeR_at]
  have hoL : ∀ q, ownL g q = fillN (idxs g.nd q g.nd.length) g.w.length g.nd.length (idxs g.nd q g.nd.length).length := fun q => rfl
  have hfl : ∀ q j, (fillN (idxs g.nd q g.nd.length) g.w.length g.nd.length j).length = g.nd.length := fun q j => fillN_length _ _ _ _
  have hfs : ∀ q j (n : Nat), (idxs g.nd q g.nd.length)[j]? = some (n : Int) → fillN (idxs g.nd q g.nd.length) g.w.length g.nd.length (j + 1) = (fillN (idxs g.nd q g.nd.length) g.w.length g.nd.length j).set n ((j * g.w.length : Nat) : Int) := fun q j n h => by
    rw [fillN, List.getD_eq_getElem?_getD, h]; rfl
  refine CallW.res (impl_nodesOf_t g.nd pl (by omega)) [] rfl Tryd.call71 ?_ (.inl rfl) ?_
  · simp -implicitDefEqProofs only [agR, Nat.reduceLeDiff, Nat.reduceSub, vaR, go_sem, ints, rows, rat, rats, ratsO, rtR, intsO, rowsO]
  simp -implicitDefEqProofs only [clR, Nat.reduceLeDiff, go_sem, evR, rat, intsO, mergeR_at]
  refine SemC.loopR (σ := Nat) (fun j => St.of [(2, .own 2), (3, .own 3), (5, .own 5), (6, .own 6), (7, .t (.i g.w.length)), (42, .own 42), (43, .t (.i (idxs g.nd pl g.nd.length).length)), (44, .t (.i j))] [(2, .box [nodes g.nd, rows g.w, rows g.v]), (3, .box [.i (1 - pl), rows ot]), (5, .box [.i 0, .v (.slice none 0 0)]), (6, rbox0 g ot pl (fillN (idxs g.nd pl g.nd.length) g.w.length g.nd.length j) (List.replicate g.nd.length 0)), (42, intsO (idxs g.nd pl g.nd.length))]) (fun j => j ≤ (idxs g.nd pl g.nd.length).length) (fun j => (idxs g.nd pl g.nd.length).length - j) 0 (Weak.of _ _ [some 2, some 3, some 5, some 6, some 42] (by simp) (by simp) ?_ ?_) (by omega) fun j hj R hn hr he => ?_
  · simp -implicitDefEqProofs only [ints, rows, Nat.reduceBEq, wkR, Nat.reduceEqDiff, ↓reduceIte, wrR, nodes, mergeR_at]
  · refine ⟨⟨_, rfl, .refl _⟩, rfl, ⟨_, rfl, .refl _⟩, rfl, ⟨_, rfl, .refl _⟩, rfl, ⟨_, rfl, ?_⟩, rfl, ⟨_, rfl, .refl _⟩, rfl, trivial⟩
    have e : T.arr 1 (List.replicate g.nd.length (T.v (Value.int IntKind.i64 0))) = intsO (List.replicate g.nd.length 0) := by rw [intsO, List.map_replicate]
    rw [e]; exact .refl _
  · rcases Nat.lt_or_ge j (idxs g.nd pl g.nd.length).length with h9 | h9
    · obtain ⟨y, hy⟩ : ∃ y, (idxs g.nd pl g.nd.length)[j]? = some y := ⟨_, List.getElem?_eq_getElem h9⟩
      obtain ⟨n, rfl, hn1⟩ := idxs_lt' hy
      have hjm := hmul j (by omega)
      simp -implicitDefEqProofs only [go_sem, evR, ints, rows, rat, rats, rbox0, nodes, hy, intsO, decide_eq_true (show (j : Int) < ((idxs g.nd pl g.nd.length).length : Int) by omega), hfl]
      refine ⟨by omega, by omega, by omega, by omega, by omega, by omega, hn _ (j + 1) (Weak.trans (Weak.join2 Tryd.prog tyOne (sl 49) (sl 50) rfl rfl rfl rfl (by decide) (by simp)) (Weak.of _ _ [some 2, some 3, some 5, some 6, some 42] (by simp) (by simp) ?_ ?_)) (by omega) (by omega)⟩
      · simp -implicitDefEqProofs only [ints, rows, Nat.reduceBEq, wkR, Nat.reduceEqDiff, ↓reduceIte, wrR, nodes, next64 h9 (by omega)]
      · refine ⟨⟨_, rfl, .refl _⟩, rfl, ⟨_, rfl, .refl _⟩, rfl, ⟨_, rfl, .refl _⟩, rfl, ⟨_, rfl, ?_⟩, rfl, ⟨_, rfl, .refl _⟩, rfl, trivial⟩
        rw [hfs _ _ _ hy, rbox0, intsO, List.map_set, wrap64 (n := (j : Int) * (g.w.length : Int)) (by omega) (by omega), ← Int.natCast_mul]; exact .refl _
    · simp -implicitDefEqProofs only [go_sem, evR, ints, rows, rat, rats, rbox0, nodes, intsO, decide_eq_false (show ¬ (j : Int) < ((idxs g.nd pl g.nd.length).length : Int) by omega)]
      refine he _ _ ?_
      simp -implicitDefEqProofs only [go_sem, evR, ints, rows, rat, rats]
      rw [show j = (idxs g.nd pl g.nd.length).length by omega, ← hoL]
      clear hn hr he R
      refine CallW.res (impl_nodesOf_t g.nd (1 - pl) (by omega)) [] rfl Tryd.call71 ?_ (.inl rfl) ?_
      · simp -implicitDefEqProofs only [agR, Nat.reduceLeDiff, Nat.reduceSub, vaR, go_sem, ints, rows, rat, rats, ratsO, rtR, intsO, rowsO]
      simp -implicitDefEqProofs only [clR, Nat.reduceLeDiff, go_sem, evR, rat, intsO]
      refine SemC.loopR (σ := Nat) (fun j => St.of [(2, .own 2), (3, .own 3), (5, .own 5), (6, .own 6), (7, .t (.i g.w.length)), (61, .own 61), (62, .t (.i (idxs g.nd (1 - pl) g.nd.length).length)), (63, .t (.i j))] [(2, .box [nodes g.nd, rows g.w, rows g.v]), (3, .box [.i (1 - pl), rows ot]), (5, .box [.i 0, .v (.slice none 0 0)]), (6, rbox0 g ot pl (ownL g pl) (fillN (idxs g.nd (1 - pl) g.nd.length) g.w.length g.nd.length j)), (61, intsO (idxs g.nd (1 - pl) g.nd.length))]) (fun j => j ≤ (idxs g.nd (1 - pl) g.nd.length).length) (fun j => (idxs g.nd (1 - pl) g.nd.length).length - j) 0 (Weak.of _ _ [some 2, some 3, some 5, some 6, some 61] (by simp) (by simp) ?_ ?_) (by omega) fun j hj R hn hr he => ?_
      · simp -implicitDefEqProofs only [ints, rows, Nat.reduceBEq, wkR, Nat.reduceEqDiff, ↓reduceIte, wrR, nodes, mergeR_at]
      · refine ⟨⟨_, rfl, .refl _⟩, rfl, ⟨_, rfl, .refl _⟩, rfl, ⟨_, rfl, .refl _⟩, rfl, ⟨_, rfl, .refl _⟩, rfl, ⟨_, rfl, .refl _⟩, rfl, trivial⟩
      · have hol := ownL_length g pl
        rcases Nat.lt_or_ge j (idxs g.nd (1 - pl) g.nd.length).length with h9 | h9
        · obtain ⟨y, hy⟩ : ∃ y, (idxs g.nd (1 - pl) g.nd.length)[j]? = some y := ⟨_, List.getElem?_eq_getElem h9⟩
          obtain ⟨n, rfl, hn1⟩ := idxs_lt' hy
          have hjm := hmul j (by omega)
          simp -implicitDefEqProofs only [go_sem, evR, ints, rows, rat, rats, rbox0, nodes, hy, intsO, decide_eq_true (show (j : Int) < ((idxs g.nd (1 - pl) g.nd.length).length : Int) by omega), hfl]
          refine ⟨by omega, by omega, by omega, by omega, by omega, by omega, hn _ (j + 1) (Weak.trans (Weak.join2 Tryd.prog tyOne (sl 68) (sl 69) rfl rfl rfl rfl (by decide) (by simp)) (Weak.of _ _ [some 2, some 3, some 5, some 6, some 61] (by simp) (by simp) ?_ ?_)) (by omega) (by omega)⟩
          · simp -implicitDefEqProofs only [ints, rows, Nat.reduceBEq, wkR, Nat.reduceEqDiff, ↓reduceIte, wrR, nodes, next64 h9 (by omega)]
          · refine ⟨⟨_, rfl, .refl _⟩, rfl, ⟨_, rfl, .refl _⟩, rfl, ⟨_, rfl, .refl _⟩, rfl, ⟨_, rfl, ?_⟩, rfl, ⟨_, rfl, .refl _⟩, rfl, trivial⟩
            rw [hfs _ _ _ hy, rbox0, intsO, intsO, List.map_set, wrap64 (n := (j : Int) * (g.w.length : Int)) (by omega) (by omega), ← Int.natCast_mul]; exact .refl _
        · simp -implicitDefEqProofs only [go_sem, evR, ints, rows, rat, rats, rbox0, nodes, intsO, decide_eq_false (show ¬ (j : Int) < ((idxs g.nd (1 - pl) g.nd.length).length : Int) by omega)]
          refine he _ _ ?_
          simp -implicitDefEqProofs only [go_sem, evR, ints, rows, rat, rats]
          rw [show j = (idxs g.nd (1 - pl) g.nd.length).length by omega, ← hoL]
          clear hn hr he R
          have hm1 := hmul (idxs g.nd pl g.nd.length).length (by omega)
          have hm2 : (g.w.length : Int) * ((idxs g.nd pl g.nd.length).length : Int) = ((sets g pl).length : Nat) := by rw [hsl2, Int.natCast_mul, Int.mul_comm]
          refine CallC.res (impl_nodesOf_t g.nd pl (by omega)) [] rfl Tryd.call71 (fun e R' hR => ?_) (.inl rfl) ?_
          · simp -implicitDefEqProofs only [agR, Nat.reduceLeDiff, Nat.reduceSub, vaR, go_sem, ints, rows, rat, rats, ratsO, rtR, intsO, rowsO]
          simp -implicitDefEqProofs only [clR, Nat.reduceLeDiff, go_sem, evR, rat, intsO, made_one, hm2, wrap64 (n := ((sets g pl).length : Int)) (by omega) (by omega)]
          refine ⟨by omega, by omega, ?_⟩
          refine SemC.loopR (σ := Nat) (fun k => St.of [(2, .own 2), (5, .own 5), (6, .own 6), (7, .t (.i g.w.length)), (12, .t (.i (runV g ot pl k))), (89, .t (.i g.w.length)), (90, .t (.i k))] [(2, .box [nodes g.nd, rows g.w, rows g.v]), (5, .box [.i 0, .v (.slice none 0 0)]), (6, rbox1 g ot pl (runB g ot pl k))]) (fun k => k ≤ g.w.length) (fun k => g.w.length - k) 0 (Weak.trans (Weak.open 6 5 500 rfl rfl rfl (by decide) rfl) (Weak.trans (Weak.shareJoin 6 5 500 rfl rfl (by decide) rfl (by simp)) (Weak.trans (Weak.open 6 6 501 rfl rfl rfl (by decide) rfl) (Weak.trans (Weak.shareJoin 6 6 501 rfl rfl (by decide) rfl (by simp)) (Weak.of _ _ [some 2, some 5, some 6] (by simp) (by simp) ?_ ?_))))) (by omega) fun k hk R hn hr he => ?_
          · simp -implicitDefEqProofs only [ints, rows, Nat.reduceBEq, wkR, Nat.reduceEqDiff, ↓reduceIte, wrR, nodes, mergeR_at, runV, List.range_zero, List.map_nil, sumI, shareA]
          · refine ⟨⟨_, rfl, .refl _⟩, rfl, ⟨_, rfl, .refl _⟩, rfl, ⟨_, rfl, ?_⟩, rfl, trivial⟩
            have e1 : (T.arr 1 (List.map T.i (ownL g pl))).toSh = ints (ownL g pl) := intsO_toSh _
            have e2 : (T.arr 1 (List.map T.i (ownL g (1 - pl)))).toSh = ints (ownL g (1 - pl)) := intsO_toSh _
            rw [e1, e2]
            exact .bc (.refl _) (.bc (.refl _) (.bc (.refl _) (.bc (.refl _) (.bc (.any _) (.bc (.refl _) (.bc (.refl _) (.bc (.refl _) (.bc (.refl _) (.bc (Le.nilRows _) (.refl _))))))))))
          · rcases Nat.lt_or_ge k g.w.length with h9 | h9
            · simp -implicitDefEqProofs only [go_sem, evR, ints, rows, rat, rats, rbox1, nodes, made_one, decide_eq_true (show (k : Int) < (g.w.length : Int) by omega)]
              refine ⟨by omega, by omega, ?_⟩
              have hrl := reach0_length g pl k
              refine SemC.loopR (σ := Nat) (fun b => St.of [(2, .own 2), (5, .own 5), (6, .own 6), (7, .t (.i g.w.length)), (12, .t (.i (runV g ot pl k))), (13, .t (.i k)), (14, .own 77), (89, .t (.i g.w.length)), (90, .t (.i k)), (97, .own 77), (98, .t (.i g.w.length)), (99, .t (.i b))] [(2, .box [nodes g.nd, rows g.w, rows g.v]), (5, .box [.i 0, .v (.slice none 0 0)]), (6, rbox g ot pl k (runB g ot pl k)), (77, .arr 1 (filled (reach0 g pl k) T.i (.i 0) b))]) (fun b => b ≤ g.w.length) (fun b => g.w.length - b) 0 (Weak.of _ _ [some 2, some 5, some 6, some 96] (by simp) (by simp) ?_ ?_) (by omega) fun b hb R2 hn2 hr2 he2 => ?_
              · simp -implicitDefEqProofs only [ints, rows, Nat.reduceBEq, wkR, Nat.reduceEqDiff, ↓reduceIte, wrR, nodes, rbox, List.length_replicate]
              · refine ⟨⟨_, rfl, .refl _⟩, rfl, ⟨_, rfl, .refl _⟩, rfl, ⟨_, rfl, .refl _⟩, rfl, ⟨_, rfl, ?_⟩, rfl, trivial⟩
                rw [filled_zero, hrl]; exact .refl _
              · have hfl := filled_length (reach0 g pl k) T.i (.i 0) b (by omega)
                rcases Nat.lt_or_ge b g.w.length with h8 | h8
                · obtain ⟨u, v, r, y, d1, d2, d3, d4, d5, d6, d7⟩ := deal_w hg hpl h9 h8
                  have fin : ∀ S, Weak 139 S (St.of [(2, .own 2), (5, .own 5), (6, .own 6), (7, .t (.i g.w.length)), (12, .t (.i (runV g ot pl k))), (13, .t (.i k)), (14, .own 77), (89, .t (.i g.w.length)), (90, .t (.i k)), (97, .own 77), (98, .t (.i g.w.length)), (99, .t (.i (b + 1 : Nat)))] [(2, .box [nodes g.nd, rows g.w, rows g.v]), (5, .box [.i 0, .v (.slice none 0 0)]), (6, rbox g ot pl k (runB g ot pl k)), (77, .arr 1 (filled (reach0 g pl k) T.i (.i 0) (b + 1)))]) → R2 .normal S := fun S h => hn2 S (b + 1) h (by omega) (by omega)
                  rw [← filled_set d5] at fin
                  clear hn2
                  rcases hpl with rfl | rfl
                  · have d1 : k = u := by have e : (k : Int) = (u : Int) := d1; omega
                    have d2 : b = v := by have e : (b : Int) = (v : Int) := d2; omega
                    subst d1 d2
                    simp -implicitDefEqProofs only [go_sem, evR, ints, rows, rat, rats, rbox, nodes, d3, d4, hfl, decide_eq_true (show (b : Int) < (g.w.length : Int) by omega)]
                    refine ⟨fun _ => ⟨by omega, by omega, by omega, by omega, by omega, by omega, by omega, by omega, by omega, ?_⟩, fun h => absurd h (by decide)⟩
                    · refine fin _ (Weak.of _ _ [some 2, some 5, some 6, some 77] (by simp) (by simp) ?_ ?_)
                      · simp -implicitDefEqProofs only [ints, rows, Nat.reduceBEq, wkR, Nat.reduceEqDiff, ↓reduceIte, wrR, rbox, nodes, next64 h8 (by omega)]
                      · exact ⟨⟨_, rfl, .refl _⟩, rfl, ⟨_, rfl, .refl _⟩, rfl, ⟨_, rfl, .refl _⟩, rfl, ⟨_, rfl, .refl _⟩, rfl, trivial⟩
                  · have d1 : b = u := by have e : (b : Int) = (u : Int) := d1; omega
                    have d2 : k = v := by have e : (k : Int) = (v : Int) := d2; omega
                    subst d1 d2
                    simp -implicitDefEqProofs only [go_sem, evR, ints, rows, rat, rats, rbox, nodes, d3, d4, hfl, decide_eq_true (show (b : Int) < (g.w.length : Int) by omega)]
                    refine ⟨fun h => absurd h (by decide), fun _ => ⟨by omega, by omega, by omega, by omega, by omega, by omega, by omega, by omega, by omega, ?_⟩⟩
                    · refine fin _ (Weak.of _ _ [some 2, some 5, some 6, some 77] (by simp) (by simp) ?_ ?_)
                      · simp -implicitDefEqProofs only [ints, rows, Nat.reduceBEq, wkR, Nat.reduceEqDiff, ↓reduceIte, wrR, rbox, nodes, next64 h8 (by omega)]
                      · exact ⟨⟨_, rfl, .refl _⟩, rfl, ⟨_, rfl, .refl _⟩, rfl, ⟨_, rfl, .refl _⟩, rfl, ⟨_, rfl, .refl _⟩, rfl, trivial⟩
                · simp -implicitDefEqProofs only [go_sem, evR, ints, rows, rat, rats, rbox, nodes, decide_eq_false (show ¬ (b : Int) < (g.w.length : Int) by omega)]
                  refine he2 _ _ ?_
                  simp -implicitDefEqProofs only [go_sem, evR, ints, rows, rat, rats, rbox, nodes]
                  rw [show b = (reach0 g pl k).length by omega, filled_all]
                  refine ⟨_, Weak.trans (Weak.share 77 rfl) (Weak.of [(2, .own 2), (5, .own 5), (6, .own 6), (7, .t (.i g.w.length)), (12, .t (.i (runV g ot pl k))), (13, .t (.i k)), (14, .t (ints (reach0 g pl k))), (89, .t (.i g.w.length)), (90, .t (.i k))] [(2, .box [nodes g.nd, rows g.w, rows g.v]), (5, .box [.i 0, .v (.slice none 0 0)]), (6, rbox g ot pl k (runB g ot pl k))] [some 2, some 5, some 6] (by simp) (by simp) ?_ ?_), ?_⟩
                  · simp -implicitDefEqProofs only [ints, rows, Nat.reduceBEq, wkR, Nat.reduceEqDiff, ↓reduceIte, wrR, shareA, rbox, nodes, T.toSh, T.toShL_eq_map, List.map_map]
                    exact .inr (.inl rfl)
                  · exact ⟨⟨_, rfl, .refl _⟩, rfl, ⟨_, rfl, .refl _⟩, rfl, ⟨_, rfl, .refl _⟩, rfl, trivial⟩
                  · simp -implicitDefEqProofs only [go_sem, evR, ints, rows, rat, rats, rbox, nodes]
                    refine CallW.pure (dep_t (impl_depthFrom_ok t2 (by omega) g.nd.length 0 (by omega) (by omega) (by omega))) [] rfl Tryd.call56 ?_ (by first | trivial | simp [T.noSh, T.noShL, rat]) rfl ?_
                    · simp -implicitDefEqProofs only [agR, Nat.reduceLeDiff, Nat.reduceSub, vaR, go_sem, ints, rows, rat, rats, ratsO, rtR, intsO, rowsO]
                    simp -implicitDefEqProofs only [go_sem, evR, ints, rows, rat, rats]
                    rw [u2]
                    have hc := cap0 hg pl k
                    have hcall := impl_respond_ok hg hpl hot h9 g.nd.length 0 (reach0 g pl k) (dpt g) (runB g ot pl k) (by omega) (by omega) hrl hc.2 (by rw [dpt_eq]; exact Int.le_refl _) u3 hc.1 (runB_rows t2 ot pl k)
                    rw [← runB_succ] at hcall
                    simp only [rbox, nodes, rows, ints] at hcall
                    have hv1 := runV_abs hg hpl hot k
                    have hv2 := runV_abs hg hpl hot (k + 1)
                    have hcv : capV = 4199040000000 := rfl
                    have hk6 : ((k + 1 : Nat) : Int) * capV ≤ 6 * capV := Int.mul_le_mul_of_nonneg_right (by omega) (by decide)
                    rw [runV_succ] at hv2
                    refine CallW.ref hcall [6] [] rfl Tryd.call79 (by simp) ?_ (by simp) ?_ (.inl rfl) ?_
                    · simp -implicitDefEqProofs only [srR, Nat.reduceEqDiff, ↓reduceIte, ints, rows, intsO, rowsO]
                    · simp -implicitDefEqProofs only [agR, Nat.reduceLeDiff, Nat.reduceSub, vaR, go_sem, ints, rows, rat, rats, ratsO, rtR, intsO, rowsO]
                    simp -implicitDefEqProofs only [clR, Nat.reduceLeDiff, go_sem, evR, rat]
                    refine hn _ (k + 1) (Weak.of _ _ [some 2, some 5, some 6] (by simp) (by simp) ?_ ?_) (by omega) (by omega)
                    · simp -implicitDefEqProofs only [ints, rows, Nat.reduceBEq, wkR, Nat.reduceEqDiff, ↓reduceIte, wrR, rbox1, nodes, next64 h9 (by omega), wrap64 (n := runV g ot pl k + bestV g ot pl k g.nd.length 0 (reach0 g pl k) (dpt g)) (by omega) (by omega), runV_succ]
                    · refine ⟨⟨_, rfl, .refl _⟩, rfl, ⟨_, rfl, .refl _⟩, rfl, ⟨_, rfl, ?_⟩, rfl, trivial⟩
                      exact .bc (.refl _) (.bc (.refl _) (.bc (.refl _) (.bc (.refl _) (.bc (.any _) (.refl _)))))
            · simp -implicitDefEqProofs only [go_sem, evR, ints, rows, rat, rats, rbox1, nodes, decide_eq_false (show ¬ (k : Int) < (g.w.length : Int) by omega)]
              refine he _ _ ?_
              simp -implicitDefEqProofs only [go_sem, evR, ints, rows, rat, rats]
              refine ⟨_, Weak.open 6 9 500 rfl rfl rfl (by decide) rfl, ?_⟩
              simp -implicitDefEqProofs only [go_sem, evR, ints, rows, rat, rats, List.lookup_cons, beq_self_eq_true, Nat.reduceBEq]
              rw [show k = g.w.length by omega]; rfl
end
end Go.Ab

/- Contracts: pairs of strategies; best numbers, bounds, equilibria, exported. -/
set_option linter.unusedSimpArgs false
set_option linter.unusedVariables false
namespace Go.Ab
open Go.Proofs

theorem strB_parts {g : Gm} {s : Int × List (List Int)} (h : strB g s = true) : isGameB g = true ∧ (s.1 = 0 ∨ s.1 = 1) ∧ isStratB g s.1 s.2 = true := by
  simp only [strB, Bool.and_eq_true, decide_eq_true_eq] at h
  exact ⟨h.1.1, by omega, h.2⟩
theorem strB_run {g : Gm} {s : Int × List (List Int)} (h : strB g s = true) : isGameB g = true ∧ (1 - s.1 = 0 ∨ 1 - s.1 = 1) ∧ partsOK g s.2 (1 - (1 - s.1)) ∧ (1 - (1 - s.1), s.2) = s := by
  obtain ⟨h1, h2, h3⟩ := strB_parts h
  refine ⟨h1, by omega, ?_, ?_⟩
  · rw [show 1 - (1 - s.1) = s.1 by omega]; exact partsOK_of h3
  · rw [show 1 - (1 - s.1) = s.1 by omega]
theorem spec_run {g : Gm} {s : Int × List (List Int)} (h : strB g s = true) : Fun Tryd.prog 84 [] [.t (.agg [.sh 5 (chunk nodeC g.nd), .sh 1 (g.w.map ints), .sh 1 (g.v.map ints)]), .t (.agg [.i s.1, .sh 1 (s.2.map ints)])] fun o r => o = [] ∧ r = runT g s.2 (1 - s.1) := by
  obtain ⟨h1, h2, h3, h4⟩ := strB_run h
  have := spec_l24Run_ok h1 h2 h3
  rw [h4] at this
  exact this
theorem impl_run {g : Gm} {s : Int × List (List Int)} (h : strB g s = true) : Fun Tryd.prog 70 [] [.t (.agg [.sh 5 (chunk nodeC g.nd), .sh 1 (g.w.map ints), .sh 1 (g.v.map ints)]), .t (.agg [.i s.1, .sh 1 (s.2.map ints)])] fun o r => o = [] ∧ r = runT g s.2 (1 - s.1) := by
  obtain ⟨h1, h2, h3, h4⟩ := strB_run h
  have := impl_bestAgainst_ok h1 h2 h3
  rw [h4] at this
  exact this
def bestN (g : Gm) (s : Int × List (List Int)) : Int := runV g s.2 (1 - s.1) g.w.length
theorem bestN_abs {g : Gm} {s : Int × List (List Int)} (h : strB g s = true) : -25194240000000 ≤ bestN g s ∧ bestN g s ≤ 25194240000000 := by
  obtain ⟨h1, h2, h3, h4⟩ := strB_run h
  obtain ⟨_, hk, _⟩ := isGameB_spec h1
  have hv := runV_abs h1 h2 h3 g.w.length
  have hcv : capV = 4199040000000 := rfl
  have hk6 : ((g.w.length : Nat) : Int) * capV ≤ 6 * capV := Int.mul_le_mul_of_nonneg_right (by omega) (by decide)
  unfold bestN
  omega
def pairG (g : Gm) (s t : Int × List (List Int)) : Bool := strB g s && strB g t && decide (s.1 = 0) && decide (t.1 = 1)
theorem pairG_parts {g : Gm} {s t : Int × List (List Int)} (h : pairG g s t = true) : strB g s = true ∧ strB g t = true ∧ s.1 = 0 ∧ t.1 = 1 := by
  simp only [pairG, Bool.and_eq_true, decide_eq_true_eq] at h
  exact ⟨h.1.1.1, h.1.1.2, h.1.2, h.2⟩
theorem pairG_iff {g : Gm} {s t : Int × List (List Int)} : pairG g s t = true ↔ isGameB g = true ∧ s.1 = 0 ∧ t.1 = 1 ∧ isStratB g s.1 s.2 = true ∧ isStratB g t.1 t.2 = true := by
  simp only [pairG, strB, Bool.and_eq_true, decide_eq_true_eq]
  constructor
  · rintro ⟨⟨⟨⟨⟨h1, h2⟩, h3⟩, ⟨_, h4⟩, h5⟩, h6⟩, h7⟩
    exact ⟨h1, h6, h7, h3, h5⟩
  · rintro ⟨h1, h2, h3, h4, h5⟩
    exact ⟨⟨⟨⟨⟨h1, by omega⟩, h4⟩, ⟨h1, by omega⟩, h5⟩, h2⟩, h3⟩
theorem pairG_no {g : Gm} {s t : Int × List (List Int)} (h : ¬ (isGameB g = true ∧ s.1 = 0 ∧ t.1 = 1 ∧ isStratB g s.1 s.2 = true ∧ isStratB g t.1 t.2 = true)) : pairG g s t = false := by
  cases hp : pairG g s t with
  | false => rfl
  | true => exact (h (pairG_iff.1 hp)).elim
section
attribute [-go_sem] load1C load1V fldC lenC idxC loadNV nilCheckW
theorem isStr_t {f : FuncId} {g : Gm} {s : Int × List (List Int)} {b : Bool} (h : Pure Tryd.prog f [gameT g, stratT s] (.b b)) : Pure Tryd.prog f [.agg [.sh 5 (chunk nodeC g.nd), .sh 1 (g.w.map ints), .sh 1 (g.v.map ints)], .agg [.i s.1, .sh 1 (s.2.map ints)]] (.b b) := h
theorem unit_t {f : FuncId} {g : Gm} {n : Int} (h : Pure Tryd.prog f [gameT g] (.i n)) : Pure Tryd.prog f [.agg [.sh 5 (chunk nodeC g.nd), .sh 1 (g.w.map ints), .sh 1 (g.v.map ints)]] (.i n) := h
set_option maxRecDepth 20000 in
theorem spec_l23Pair_ok (g : Gm) (s t : Int × List (List Int)) (hg : gameL g) (hs : rowsL s.2) (ht : rowsL t.2) : Pure Tryd.prog 77 [gameT g, stratT s, stratT t] (.b (pairG g s t)) := by
  refine fun_spec_l23Pair (by simp) ?_
  have h1 := isStr_t (spec_IsStrategy_ok g s hg hs)
  have h2 := isStr_t (spec_IsStrategy_ok g t hg ht)
  have hdef : pairG g s t = (strB g s && strB g t && decide (s.1 = 0) && decide (t.1 = 1)) := rfl
  simp -implicitDefEqProofs only [go_sem, evR, ints, rows, rat, rats, c_spec_l23Pair, gameT, stratT, nodes]
  cases hb1 : strB g s <;> rw [hb1] at h1
  · refine CallW.pure h1 [] rfl Tryd.call35 ?_ (by first | trivial | simp [T.noSh, T.noShL, rat]) rfl ?_
    · simp -implicitDefEqProofs only [agR, Nat.reduceLeDiff, Nat.reduceSub, vaR, go_sem, ints, rows, rat, rats, ratsO, rtR, intsO, rowsO]
    simp -implicitDefEqProofs only [go_sem, evR, ints, rows, rat, rats]
    rw [hdef, hb1]; rfl
  · refine CallW.pure h1 [] rfl Tryd.call35 ?_ (by first | trivial | simp [T.noSh, T.noShL, rat]) rfl ?_
    · simp -implicitDefEqProofs only [agR, Nat.reduceLeDiff, Nat.reduceSub, vaR, go_sem, ints, rows, rat, rats, ratsO, rtR, intsO, rowsO]
    simp -implicitDefEqProofs only [go_sem, evR, ints, rows, rat, rats]
    cases hb2 : strB g t <;> rw [hb2] at h2
    · refine CallW.pure h2 [] rfl Tryd.call35 ?_ (by first | trivial | simp [T.noSh, T.noShL, rat]) rfl ?_
      · simp -implicitDefEqProofs only [agR, Nat.reduceLeDiff, Nat.reduceSub, vaR, go_sem, ints, rows, rat, rats, ratsO, rtR, intsO, rowsO]
      simp -implicitDefEqProofs only [go_sem, evR, ints, rows, rat, rats]
      rw [hdef, hb1, hb2]; rfl
    · refine CallW.pure h2 [] rfl Tryd.call35 ?_ (by first | trivial | simp [T.noSh, T.noShL, rat]) rfl ?_
      · simp -implicitDefEqProofs only [agR, Nat.reduceLeDiff, Nat.reduceSub, vaR, go_sem, ints, rows, rat, rats, ratsO, rtR, intsO, rowsO]
      simp -implicitDefEqProofs only [go_sem, evR, ints, rows, rat, rats]
      refine ⟨fun h3 => ?_, fun h3 => ?_⟩
      · have h3 : s.1 = 0 := by simpa using h3
        rw [hdef, hb1, hb2, decide_eq_true h3]
        congr 2
      · have h3 : ¬ s.1 = 0 := by simpa using h3
        rw [hdef, hb1, hb2, decide_eq_false h3]; rfl
set_option maxRecDepth 20000 in
theorem impl_arePair_ok (g : Gm) (s t : Int × List (List Int)) (hg : gameL g) (hs : rowsL s.2) (ht : rowsL t.2) : Pure Tryd.prog 47 [gameT g, stratT s, stratT t] (.b (pairG g s t)) := by
  refine fun_impl_arePair (by simp) ?_
  have h1 := isGame_t (impl_IsGame_ok g hg)
  simp -implicitDefEqProofs only [go_sem, evR, ints, rows, rat, rats, c_impl_arePair, gameT, stratT, nodes]
  cases hb1 : isGameB g <;> rw [hb1] at h1
  · refine CallW.pure h1 [] rfl Tryd.call23 ?_ (by first | trivial | simp [T.noSh, T.noShL, rat]) rfl ?_
    · simp -implicitDefEqProofs only [agR, Nat.reduceLeDiff, Nat.reduceSub, vaR, go_sem, ints, rows, rat, rats, ratsO, rtR, intsO, rowsO]
    simp -implicitDefEqProofs only [go_sem, evR, ints, rows, rat, rats]
    rw [pairG_no fun h => by rw [hb1] at h; exact absurd h.1 (by simp)]
  · have h2 := isStr_t (impl_isStrategy_ok g s hb1 hs)
    have h3 := isStr_t (impl_isStrategy_ok g t hb1 ht)
    refine CallW.pure h1 [] rfl Tryd.call23 ?_ (by first | trivial | simp [T.noSh, T.noShL, rat]) rfl ?_
    · simp -implicitDefEqProofs only [agR, Nat.reduceLeDiff, Nat.reduceSub, vaR, go_sem, ints, rows, rat, rats, ratsO, rtR, intsO, rowsO]
    simp -implicitDefEqProofs only [go_sem, evR, ints, rows, rat, rats]
    refine ⟨fun h4 => ⟨fun h5 => ?_, fun h5 => ?_⟩, fun h4 => ?_⟩
    · have h4 : s.1 = 0 := by simpa using h4
      have h5 : t.1 = 1 := by simpa using h5
      cases hb2 : isStratB g s.1 s.2 <;> rw [hb2] at h2
      · refine CallW.pure h2 [] rfl Tryd.call69 ?_ (by first | trivial | simp [T.noSh, T.noShL, rat]) rfl ?_
        · simp -implicitDefEqProofs only [agR, Nat.reduceLeDiff, Nat.reduceSub, vaR, go_sem, ints, rows, rat, rats, ratsO, rtR, intsO, rowsO]
        simp -implicitDefEqProofs only [go_sem, evR, ints, rows, rat, rats]
        rw [pairG_no fun h => by rw [hb2] at h; exact absurd h.2.2.2.1 (by simp)]
      · refine CallW.pure h2 [] rfl Tryd.call69 ?_ (by first | trivial | simp [T.noSh, T.noShL, rat]) rfl ?_
        · simp -implicitDefEqProofs only [agR, Nat.reduceLeDiff, Nat.reduceSub, vaR, go_sem, ints, rows, rat, rats, ratsO, rtR, intsO, rowsO]
        simp -implicitDefEqProofs only [go_sem, evR, ints, rows, rat, rats]
        cases hb3 : isStratB g t.1 t.2 <;> rw [hb3] at h3
        · refine CallW.pure h3 [] rfl Tryd.call69 ?_ (by first | trivial | simp [T.noSh, T.noShL, rat]) rfl ?_
          · simp -implicitDefEqProofs only [agR, Nat.reduceLeDiff, Nat.reduceSub, vaR, go_sem, ints, rows, rat, rats, ratsO, rtR, intsO, rowsO]
          simp -implicitDefEqProofs only [go_sem, evR, ints, rows, rat, rats]
          rw [pairG_no fun h => by rw [hb3] at h; exact absurd h.2.2.2.2 (by simp)]
        · refine CallW.pure h3 [] rfl Tryd.call69 ?_ (by first | trivial | simp [T.noSh, T.noShL, rat]) rfl ?_
          · simp -implicitDefEqProofs only [agR, Nat.reduceLeDiff, Nat.reduceSub, vaR, go_sem, ints, rows, rat, rats, ratsO, rtR, intsO, rowsO]
          simp -implicitDefEqProofs only [go_sem, evR, ints, rows, rat, rats]
          rw [pairG_iff.2 ⟨hb1, h4, h5, hb2, hb3⟩]
    · have h5 : ¬ t.1 = 1 := by simpa using h5
      rw [pairG_no fun h => h5 h.2.2.1]
    · have h4 : ¬ s.1 = 0 := by simpa using h4
      rw [pairG_no fun h => h4 h.2.1]
theorem pair_t {f : FuncId} {g : Gm} {s t : Int × List (List Int)} {b : Bool} (h : Pure Tryd.prog f [gameT g, stratT s, stratT t] (.b b)) : Pure Tryd.prog f [.agg [.sh 5 (chunk nodeC g.nd), .sh 1 (g.w.map ints), .sh 1 (g.v.map ints)], .agg [.i s.1, .sh 1 (s.2.map ints)], .agg [.i t.1, .sh 1 (t.2.map ints)]] (.b b) := h
set_option maxRecDepth 20000 in
theorem spec_l24Both_ok (g : Gm) (s t : Int × List (List Int)) (h : pairG g s t = true) : Pure Tryd.prog 78 [gameT g, stratT s, stratT t] (.tup [.i (bestN g t), .i (bestN g s)]) := by
  obtain ⟨h1, h2, _⟩ := pairG_parts h
  refine fun_spec_l24Both (by simp) ?_
  simp -implicitDefEqProofs only [go_sem, evR, ints, rows, rat, rats, c_spec_l24Both, gameT, stratT, nodes]
  refine CallW.res (spec_run h2) [] rfl Tryd.call84 ?_ (.inl rfl) ?_
  · simp -implicitDefEqProofs only [agR, Nat.reduceLeDiff, Nat.reduceSub, vaR, go_sem, ints, rows, rat, rats, ratsO, rtR, intsO, rowsO]
  simp -implicitDefEqProofs only [clR, Nat.reduceLeDiff, go_sem, evR, rat, runT, rowsO]
  refine CallW.res (spec_run h1) [] rfl Tryd.call84 ?_ (.inl rfl) ?_
  · simp -implicitDefEqProofs only [agR, Nat.reduceLeDiff, Nat.reduceSub, vaR, go_sem, ints, rows, rat, rats, ratsO, rtR, intsO, rowsO]
  simp -implicitDefEqProofs only [clR, Nat.reduceLeDiff, go_sem, evR, rat, runT, rowsO]
  rfl
set_option maxRecDepth 20000 in
theorem impl_valueBounds_ok (g : Gm) (s t : Int × List (List Int)) (h : pairG g s t = true) : Pure Tryd.prog 48 [gameT g, stratT s, stratT t] (.tup [.i (-bestN g s), .i (bestN g t)]) := by
  obtain ⟨h1, h2, _⟩ := pairG_parts h
  have b1 := bestN_abs h1
  refine fun_impl_valueBounds (by simp) ?_
  simp -implicitDefEqProofs only [go_sem, evR, ints, rows, rat, rats, c_impl_valueBounds, gameT, stratT, nodes]
  refine CallW.res (impl_run h1) [] rfl Tryd.call70 ?_ (.inl rfl) ?_
  · simp -implicitDefEqProofs only [agR, Nat.reduceLeDiff, Nat.reduceSub, vaR, go_sem, ints, rows, rat, rats, ratsO, rtR, intsO, rowsO]
  simp -implicitDefEqProofs only [clR, Nat.reduceLeDiff, go_sem, evR, rat, runT, rowsO]
  refine CallW.res (impl_run h2) [] rfl Tryd.call70 ?_ (.inl rfl) ?_
  · simp -implicitDefEqProofs only [agR, Nat.reduceLeDiff, Nat.reduceSub, vaR, go_sem, ints, rows, rat, rats, ratsO, rtR, intsO, rowsO]
  simp -implicitDefEqProofs only [clR, Nat.reduceLeDiff, go_sem, evR, rat, runT, rowsO]
  rw [show 0 - runV g s.2 (1 - s.1) g.w.length = -bestN g s by unfold bestN; omega, wrap64 (n := -bestN g s) (by omega) (by omega)]; rfl
theorem vb_t {f : FuncId} {g : Gm} {s t : Int × List (List Int)} {r : T} (h : Pure Tryd.prog f [gameT g, stratT s, stratT t] r) : Pure Tryd.prog f [.agg [.sh 5 (chunk nodeC g.nd), .sh 1 (g.w.map ints), .sh 1 (g.v.map ints)], .agg [.i s.1, .sh 1 (s.2.map ints)], .agg [.i t.1, .sh 1 (t.2.map ints)]] r := h
def vbR (g : Gm) (s t : Int × List (List Int)) : Int × Int × Int × Int := if pairG g s t = true then (-bestN g s, bestN g t, unit g, 0) else (0, 0, 0, 1)
def tr4 (r : Int × Int × Int × Int) : T := .tup [.i r.1, .i r.2.1, .i r.2.2.1, .i r.2.2.2]
set_option maxRecDepth 20000 in
theorem spec_ValueBounds_ok (g : Gm) (s t : Int × List (List Int)) (hg : gameL g) (hs : rowsL s.2) (ht : rowsL t.2) : Pure Tryd.prog 63 [gameT g, stratT s, stratT t] (tr4 (vbR g s t)) := by
  refine fun_spec_ValueBounds (by simp) ?_
  have h1 := pair_t (spec_l23Pair_ok g s t hg hs ht)
  simp -implicitDefEqProofs only [go_sem, evR, ints, rows, rat, rats, c_spec_ValueBounds, gameT, stratT, nodes]
  cases hb : pairG g s t <;> rw [hb] at h1
  · refine CallW.pure h1 [] rfl Tryd.call77 ?_ (by first | trivial | simp [T.noSh, T.noShL, rat]) rfl ?_
    · simp -implicitDefEqProofs only [agR, Nat.reduceLeDiff, Nat.reduceSub, vaR, go_sem, ints, rows, rat, rats, ratsO, rtR, intsO, rowsO]
    simp -implicitDefEqProofs only [go_sem, evR, ints, rows, rat, rats]
    rw [vbR, hb]; rfl
  · have b1 := bestN_abs (pairG_parts hb).1
    refine CallW.pure h1 [] rfl Tryd.call77 ?_ (by first | trivial | simp [T.noSh, T.noShL, rat]) rfl ?_
    · simp -implicitDefEqProofs only [agR, Nat.reduceLeDiff, Nat.reduceSub, vaR, go_sem, ints, rows, rat, rats, ratsO, rtR, intsO, rowsO]
    simp -implicitDefEqProofs only [go_sem, evR, ints, rows, rat, rats]
    refine CallW.pure (vb_t (spec_l24Both_ok g s t hb)) [] rfl Tryd.call78 ?_ (by first | trivial | simp [T.noSh, T.noShL, rat]) rfl ?_
    · simp -implicitDefEqProofs only [agR, Nat.reduceLeDiff, Nat.reduceSub, vaR, go_sem, ints, rows, rat, rats, ratsO, rtR, intsO, rowsO]
    simp -implicitDefEqProofs only [go_sem, evR, ints, rows, rat, rats]
    refine CallW.pure (unit_t (spec_l23Unit_ok g (pairG_iff.1 hb).1)) [] rfl Tryd.call19 ?_ (by first | trivial | simp [T.noSh, T.noShL, rat]) rfl ?_
    · simp -implicitDefEqProofs only [agR, Nat.reduceLeDiff, Nat.reduceSub, vaR, go_sem, ints, rows, rat, rats, ratsO, rtR, intsO, rowsO]
    simp -implicitDefEqProofs only [go_sem, evR, ints, rows, rat, rats]
    rw [vbR, hb, show 0 - bestN g s = -bestN g s by omega, wrap64 (n := -bestN g s) (by omega) (by omega)]; rfl
def prB (g : Gm) (c : Cl) : Bool := pairG g c.f c.s && decide (-1000000000000000 ≤ c.lo) && decide (c.lo ≤ -bestN g c.f) && decide (bestN g c.s ≤ c.hi) && decide (c.hi ≤ 1000000000000000)
theorem prB_iff {g : Gm} {c : Cl} : prB g c = true ↔ pairG g c.f c.s = true ∧ -1000000000000000 ≤ c.lo ∧ c.lo ≤ -bestN g c.f ∧ bestN g c.s ≤ c.hi ∧ c.hi ≤ 1000000000000000 := by
  simp only [prB, Bool.and_eq_true, decide_eq_true_eq]
  constructor
  · rintro ⟨⟨⟨⟨h1, h2⟩, h3⟩, h4⟩, h5⟩; exact ⟨h1, h2, h3, h4, h5⟩
  · rintro ⟨h1, h2, h3, h4, h5⟩; exact ⟨⟨⟨⟨h1, h2⟩, h3⟩, h4⟩, h5⟩
theorem prB_no {g : Gm} {c : Cl} (h : ¬ (pairG g c.f c.s = true ∧ -1000000000000000 ≤ c.lo ∧ c.lo ≤ -bestN g c.f ∧ bestN g c.s ≤ c.hi ∧ c.hi ≤ 1000000000000000)) : prB g c = false := by
  cases hp : prB g c with
  | false => rfl
  | true => exact (h (prB_iff.1 hp)).elim
set_option maxRecDepth 20000 in
theorem spec_IsProved_ok (g : Gm) (c : Cl) (hg : gameL g) (hf : rowsL c.f.2) (hs : rowsL c.s.2) : Pure Tryd.prog 34 [gameT g, claimT c] (.b (prB g c)) := by
  refine fun_spec_IsProved (by simp) ?_
  have h1 := vb_t (spec_ValueBounds_ok g c.f c.s hg hf hs)
  simp -implicitDefEqProofs only [go_sem, evR, ints, rows, rat, rats, c_spec_IsProved, gameT, claimT, nodes]
  cases hb : pairG g c.f c.s
  · rw [vbR, hb] at h1
    simp only [tr4, Bool.false_eq_true, if_false] at h1
    refine CallW.pure h1 [] rfl Tryd.call63 ?_ (by first | trivial | simp [T.noSh, T.noShL, rat]) rfl ?_
    · simp -implicitDefEqProofs only [agR, Nat.reduceLeDiff, Nat.reduceSub, vaR, go_sem, ints, rows, rat, rats, ratsO, rtR, intsO, rowsO]
    simp -implicitDefEqProofs only [go_sem, evR, ints, rows, rat, rats]
    rw [prB_no fun h => by rw [hb] at h; exact absurd h.1 (by simp)]
    exact ⟨fun h => absurd h (by decide), fun _ => rfl⟩
  · rw [vbR, hb] at h1
    simp only [tr4, if_true] at h1
    refine CallW.pure h1 [] rfl Tryd.call63 ?_ (by first | trivial | simp [T.noSh, T.noShL, rat]) rfl ?_
    · simp -implicitDefEqProofs only [agR, Nat.reduceLeDiff, Nat.reduceSub, vaR, go_sem, ints, rows, rat, rats, ratsO, rtR, intsO, rowsO]
    simp -implicitDefEqProofs only [go_sem, evR, ints, rows, rat, rats]
    refine ⟨fun _ => ⟨fun a1 => ⟨fun a2 => ⟨fun a3 => ?_, fun a3 => ?_⟩, fun a2 => ?_⟩, fun a1 => ?_⟩, fun h => absurd h (by decide)⟩
    · by_cases a4 : c.hi ≤ 1000000000000000
      · rw [decide_eq_true a4, prB_iff.2 ⟨hb, a1, a2, a3, a4⟩]
      · rw [decide_eq_false a4, prB_no fun h => a4 h.2.2.2.2]
    · rw [prB_no fun h => a3 h.2.2.2.1]
    · rw [prB_no fun h => a2 h.2.2.1]
    · rw [prB_no fun h => a1 h.2.1]
set_option maxRecDepth 20000 in
theorem impl_isProved_ok (g : Gm) (c : Cl) (hg : gameL g) (hf : rowsL c.f.2) (hs : rowsL c.s.2) : Pure Tryd.prog 24 [gameT g, claimT c] (.b (prB g c)) := by
  refine fun_impl_isProved (by simp) ?_
  have h1 := pair_t (impl_arePair_ok g c.f c.s hg hf hs)
  simp -implicitDefEqProofs only [go_sem, evR, ints, rows, rat, rats, c_impl_isProved, gameT, claimT, nodes]
  cases hb : pairG g c.f c.s <;> rw [hb] at h1
  · refine CallW.pure h1 [] rfl Tryd.call47 ?_ (by first | trivial | simp [T.noSh, T.noShL, rat]) rfl ?_
    · simp -implicitDefEqProofs only [agR, Nat.reduceLeDiff, Nat.reduceSub, vaR, go_sem, ints, rows, rat, rats, ratsO, rtR, intsO, rowsO]
    simp -implicitDefEqProofs only [go_sem, evR, ints, rows, rat, rats]
    rw [prB_no fun h => by rw [hb] at h; exact absurd h.1 (by simp)]
  · refine CallW.pure h1 [] rfl Tryd.call47 ?_ (by first | trivial | simp [T.noSh, T.noShL, rat]) rfl ?_
    · simp -implicitDefEqProofs only [agR, Nat.reduceLeDiff, Nat.reduceSub, vaR, go_sem, ints, rows, rat, rats, ratsO, rtR, intsO, rowsO]
    simp -implicitDefEqProofs only [go_sem, evR, ints, rows, rat, rats]
    have b1 := bestN_abs (pairG_parts hb).1
    have b2 := bestN_abs (pairG_parts hb).2.1
    have w1 := impl_within_ok c.lo (-1000000000000000) 1000000000000000
    have w2 := impl_within_ok c.hi (-1000000000000000) 1000000000000000
    cases hw1 : decide (-1000000000000000 ≤ c.lo ∧ c.lo ≤ 1000000000000000) <;> rw [hw1] at w1
    · refine CallW.pure w1 [] rfl Tryd.call44 ?_ (by first | trivial | simp [T.noSh, T.noShL, rat]) rfl ?_
      · simp -implicitDefEqProofs only [agR, Nat.reduceLeDiff, Nat.reduceSub, vaR, go_sem, ints, rows, rat, rats, ratsO, rtR, intsO, rowsO]
      simp -implicitDefEqProofs only [go_sem, evR, ints, rows, rat, rats]
      have hw1 := of_decide_eq_false hw1
      rw [prB_no fun h => hw1 ⟨h.2.1, by have := h.2.2.1; omega⟩]
    · refine CallW.pure w1 [] rfl Tryd.call44 ?_ (by first | trivial | simp [T.noSh, T.noShL, rat]) rfl ?_
      · simp -implicitDefEqProofs only [agR, Nat.reduceLeDiff, Nat.reduceSub, vaR, go_sem, ints, rows, rat, rats, ratsO, rtR, intsO, rowsO]
      simp -implicitDefEqProofs only [go_sem, evR, ints, rows, rat, rats]
      have hw1 := of_decide_eq_true hw1
      cases hw2 : decide (-1000000000000000 ≤ c.hi ∧ c.hi ≤ 1000000000000000) <;> rw [hw2] at w2
      · refine CallW.pure w2 [] rfl Tryd.call44 ?_ (by first | trivial | simp [T.noSh, T.noShL, rat]) rfl ?_
        · simp -implicitDefEqProofs only [agR, Nat.reduceLeDiff, Nat.reduceSub, vaR, go_sem, ints, rows, rat, rats, ratsO, rtR, intsO, rowsO]
        simp -implicitDefEqProofs only [go_sem, evR, ints, rows, rat, rats]
        have hw2 := of_decide_eq_false hw2
        rw [prB_no fun h => hw2 ⟨by have := h.2.2.2.1; omega, h.2.2.2.2⟩]
      · refine CallW.pure w2 [] rfl Tryd.call44 ?_ (by first | trivial | simp [T.noSh, T.noShL, rat]) rfl ?_
        · simp -implicitDefEqProofs only [agR, Nat.reduceLeDiff, Nat.reduceSub, vaR, go_sem, ints, rows, rat, rats, ratsO, rtR, intsO, rowsO]
        simp -implicitDefEqProofs only [go_sem, evR, ints, rows, rat, rats]
        have hw2 := of_decide_eq_true hw2
        refine CallW.pure (vb_t (impl_valueBounds_ok g c.f c.s hb)) [] rfl Tryd.call48 ?_ (by first | trivial | simp [T.noSh, T.noShL, rat]) rfl ?_
        · simp -implicitDefEqProofs only [agR, Nat.reduceLeDiff, Nat.reduceSub, vaR, go_sem, ints, rows, rat, rats, ratsO, rtR, intsO, rowsO]
        simp -implicitDefEqProofs only [go_sem, evR, ints, rows, rat, rats]
        refine ⟨fun a2 => ?_, fun a2 => ?_⟩
        · by_cases a3 : c.hi ≥ bestN g c.s
          · rw [decide_eq_true a3, prB_iff.2 ⟨hb, hw1.1, a2, a3, hw2.2⟩]
          · rw [decide_eq_false a3, prB_no fun h => a3 h.2.2.2.1]
        · rw [prB_no fun h => a2 h.2.2.1]
def clCode (g : Gm) (c : Cl) : Int := if isGameB g = false then 1 else if prB g c = false then 5 else 0
set_option maxRecDepth 20000 in
theorem spec_l28Code_ok (g : Gm) (c : Cl) (hg : gameL g) (hf : rowsL c.f.2) (hs : rowsL c.s.2) : Pure Tryd.prog 15 [gameT g, claimT c] (.i (clCode g c)) := by
  refine fun_spec_l28Code (by simp) ?_
  have h1 := isGame_t (spec_IsGame_ok g hg)
  have h2 := spec_IsProved_ok g c hg hf hs
  simp only [gameT, claimT, nodes, rows] at h2
  simp -implicitDefEqProofs only [go_sem, evR, ints, rows, rat, rats, c_spec_l28Code, gameT, claimT, nodes]
  cases hb1 : isGameB g <;> rw [hb1] at h1
  · refine CallW.pure h1 [] rfl Tryd.call33 ?_ (by first | trivial | simp [T.noSh, T.noShL, rat]) rfl ?_
    · simp -implicitDefEqProofs only [agR, Nat.reduceLeDiff, Nat.reduceSub, vaR, go_sem, ints, rows, rat, rats, ratsO, rtR, intsO, rowsO]
    simp -implicitDefEqProofs only [go_sem, evR, ints, rows, rat, rats]
    rw [clCode, hb1]; rfl
  · refine CallW.pure h1 [] rfl Tryd.call33 ?_ (by first | trivial | simp [T.noSh, T.noShL, rat]) rfl ?_
    · simp -implicitDefEqProofs only [agR, Nat.reduceLeDiff, Nat.reduceSub, vaR, go_sem, ints, rows, rat, rats, ratsO, rtR, intsO, rowsO]
    simp -implicitDefEqProofs only [go_sem, evR, ints, rows, rat, rats]
    cases hb2 : prB g c <;> rw [hb2] at h2
    · refine CallW.pure h2 [] rfl Tryd.call34 ?_ (by first | trivial | simp [T.noSh, T.noShL, rat]) rfl ?_
      · simp -implicitDefEqProofs only [agR, Nat.reduceLeDiff, Nat.reduceSub, vaR, go_sem, ints, rows, rat, rats, ratsO, rtR, intsO, rowsO]
      simp -implicitDefEqProofs only [go_sem, evR, ints, rows, rat, rats]
      rw [clCode, hb1, hb2]; rfl
    · refine CallW.pure h2 [] rfl Tryd.call34 ?_ (by first | trivial | simp [T.noSh, T.noShL, rat]) rfl ?_
      · simp -implicitDefEqProofs only [agR, Nat.reduceLeDiff, Nat.reduceSub, vaR, go_sem, ints, rows, rat, rats, ratsO, rtR, intsO, rowsO]
      simp -implicitDefEqProofs only [go_sem, evR, ints, rows, rat, rats]
      rw [clCode, hb1, hb2]; rfl
theorem clCode_zero {g : Gm} {c : Cl} : clCode g c = 0 ↔ isGameB g = true ∧ prB g c = true := by
  unfold clCode
  cases isGameB g <;> cases prB g c <;> simp
end
end Go.Ab

/- Sizes of games, strategies and claims behind the laws' budgets. -/
set_option linter.unusedSimpArgs false
set_option linter.unusedVariables false
namespace Go.Ab
open Go.Proofs

def rowsS (m : List (List Int)) : Prop := m.length ≤ 1048576 ∧ tot m ≤ 1048576
def gameS (g : Gm) : Prop := rowsS (chs g.nd) ∧ rowsS g.w ∧ rowsS g.v
theorem rowsS_12 {m : List (List Int)} (h : rowsS m) : rows12 m := ⟨by have := h.1; omega, fun r hr => by have := tot_mem hr; have := h.2; omega⟩
theorem rowsS_L {m : List (List Int)} (h : rowsS m) : rowsL m := ⟨by have := h.1; omega, fun r hr => by have := tot_mem hr; have := h.2; omega⟩
theorem chs_mem {l : List Nd} {x : Nd} (h : x ∈ l) : x.ch ∈ chs l := List.mem_map.2 ⟨x, h, rfl⟩
theorem chs_length (l : List Nd) : (chs l).length = l.length := by simp [chs]
theorem gameS_12 {g : Gm} (h : gameS g) : game12 g := by
  have h1 := rowsS_12 h.1
  exact ⟨by have := h1.1; rw [chs_length] at this; exact this, fun x hx => h1.2 _ (chs_mem hx), rowsS_12 h.2.1, rowsS_12 h.2.2⟩
theorem gameS_L {g : Gm} (h : gameS g) : gameL g := by
  have h1 := rowsS_L h.1
  exact ⟨by have := h1.1; rw [chs_length] at this; exact this, fun x hx => h1.2 _ (chs_mem hx), rowsS_L h.2.1, rowsS_L h.2.2⟩
theorem budgetM_S {m : List (List Int)} {left : Int} (h0 : 0 ≤ left) (h1 : left ≤ 1048576) (h : ¬ budgetMat m left < 0) : rowsS m ∧ 0 ≤ budgetMat m left ∧ budgetMat m left ≤ 1048576 := by
  have h2 := nbudgetMat_le (m := m) (left := left) (by omega)
  have h3 := (budgetMat_ok (m := m) (left := left) h0 (by omega)).1
  have h4 := budgetMat_tot (m := m) (left := left) h0 (by omega)
  exact ⟨⟨by omega, by omega⟩, by omega, by omega⟩
theorem budgetG_S {g : Gm} {left : Int} (h0 : 0 ≤ left) (h1 : left ≤ 1048576) (h : ¬ budgetG g left < 0) : gameS g ∧ 0 ≤ budgetG g left ∧ budgetG g left ≤ 1048576 := by
  unfold budgetG at h ⊢
  by_cases a : budgetMat (chs g.nd) left < 0
  · rw [if_pos a] at h; exact absurd h (by decide)
  rw [if_neg a] at h ⊢
  obtain ⟨a1, a2, a3⟩ := budgetM_S h0 h1 a
  by_cases b : budgetMat g.w (budgetMat (chs g.nd) left) < 0
  · rw [if_pos b] at h; exact absurd h (by decide)
  rw [if_neg b] at h ⊢
  obtain ⟨b1, b2, b3⟩ := budgetM_S a2 a3 b
  obtain ⟨c1, c2, c3⟩ := budgetM_S b2 b3 h
  exact ⟨⟨a1, b1, c1⟩, c2, c3⟩
theorem budgetC_S {c : Cl} {left : Int} (h0 : 0 ≤ left) (h1 : left ≤ 1048576) (h : ¬ budgetC c left < 0) : (rowsS c.f.2 ∧ rowsS c.s.2) ∧ 0 ≤ budgetC c left ∧ budgetC c left ≤ 1048576 := by
  unfold budgetC at h ⊢
  by_cases a : budgetMat c.f.2 left < 0
  · rw [if_pos a] at h; exact absurd h (by decide)
  rw [if_neg a] at h ⊢
  obtain ⟨a1, a2, a3⟩ := budgetM_S h0 h1 a
  obtain ⟨b1, b2, b3⟩ := budgetM_S a2 a3 h
  exact ⟨⟨a1, b1⟩, b2, b3⟩
end Go.Ab

/- Functions in compact form, with hints. -/
set_option linter.unusedVariables false
namespace Go.Ab
open Go.Proofs

def c_impl_StrategyText_h : CC :=
 (.seq (.reg [.o (.box 2 (sl 0)),
 .o (.box 3 (sl 1)),
 .o (.move 4 (cv (.string ⟨#[]⟩))),
 .o (.move 5 (ci 0))])
 ((.seq (.seq (.reg [.o (.loadN 9 3 (sl 2)),
 .o (.loadN 10 2 (sl 3)),
 .o (.call (some 11) (cf 49) [(sl 9), (sl 10)]),
 .o (.un 12 .not (sl 11))])
 ((.cond (sl 12) (.seq (.reg [.o (.move 4 (cv (.string ⟨#[]⟩))),
 .o (.move 5 (ci 1))])
 (.ret))
 .skip)))
 ((.seq (.reg [.o (.alloc 6 [.bld 84 5 []])])
 ((.seq (.seq (.reg [.o (.loadN 13 3 (sl 2)),
 .o (.fld 14 0 (sl 3)),
 .o (.load1 15 (sl 14)),
 .o (.call (some 16) (cf 50) [(sl 13), (sl 15)]),
 .o (.lenS 17 (sl 16)),
 .o (.move 18 (ci 0))])
 ((.block 0 (.loop (.seq (.reg [.o (.bin 19 .lss (sl 18) (sl 17))])
 ((.seq (.cond (sl 19) .skip
 (.exit 0))
 ((.seq (.block 1 (.seq (.reg [.o (.move 20 (sl 18)),
 .o (.idx 21 1 (sl 16) (sl 18)),
 .o (.load1 22 (sl 21)),
 .o (.move 7 (sl 20)),
 .o (.move 8 (sl 22))])
 ((.draw [34] [(kR, .o (.move 23 (sl 8))),
 (kR, .o (.call (some 24) (cf 26) [(sl 23), (cv (.string ⟨#[47]⟩))])),
 (kR, .o (.bin 25 .add (sl 24) (cv (.string ⟨#[58]⟩)))),
 (kR, .o (.fld 26 1 (sl 3))),
 (kR, .o (.load1 27 (sl 26))),
 (kR, .o (.move 28 (sl 7))),
 (kR, .o (.idx 29 1 (sl 27) (sl 28))),
 (kR, .o (.load1 30 (sl 29))),
 (kR, .o (.call (some 31) (cf 26) [(sl 30), (cv (.string ⟨#[44]⟩))])),
 (kR, .o (.bin 32 .add (sl 25) (sl 31))),
 (kR, .o (.bin 33 .add (sl 32) (cv (.string ⟨#[10]⟩)))),
 (.h (some [6]) [], .o (.call (some 34) (cf 51) [(sl 6), (sl 33)]))]))))
 ((.reg [.o (.bin 35 .add (sl 18) (ci 1)),
 .o (.move 18 (sl 35))])))))))))))
 ((.seq (.reg [.o (.call (some 36) (cf 52) [(sl 6)]),
 .o (.move 4 (sl 36)),
 .o (.move 5 (ci 0))])
 (.ret))))))))))
theorem fun_impl_StrategyText_h {rin : List T} {args : List A} {Q : List T → T → Prop} (ha : args.length ≤ 37) (h : cW Tryd.prog 37 c_impl_StrategyText_h (retP Tryd.prog [.tmp 4, .tmp 5] rin.length Q) (St.of (enum 0 args) (enum 1000000000 rin))) :
    Fun Tryd.prog 25 rin args Q :=
  Fun.of (H := ⟨[(7, 11, .h (some [6]) [])], []⟩) Tryd.func25 rfl rfl rfl (by kernel_rfl) ha (by decide) h

end Go.Ab

/-
  DERIVED: THE SHELF's CONTRACTS AT THIS DUMP, IN PLAIN WORDS (tools/lay-plain.mjs out of 'TrydShelf.lean', which tools/lay-shelf.mjs wrote): THE SAME DECLARATIONS UNDER THE SAME NAMES: 'import', 'namespace', 'open', 'def', 'theorem' AND NOTHING ELSE: no command of the shelf's: FOR A HAND-IN. Each laying: the table of numbers ('.._ren') and one theorem, a field a fact of the dump's own or the kernel's comparison; each contract: ONE APPLICATION.
-/
namespace Go.Proofs
open Go.Shelf
def Tryd.lays169_ren : Go.Shelf.Ren := ⟨fun | 169 => 52 | n => n, fun | 70 => 82 | 9 => 9 | 0 => 0 | 72 => 84 | 37 => 71 | 127 => 109 | 3 => 3 | 5 => 5 | n => n, fun | n => n⟩
theorem Tryd.lays169 : Go.Proofs.Lays.n169 Tryd.prog Tryd.lays169_ren := {
  mixed := by kernel_rfl
  f169 := Tryd.func52.trans (congrArg some (by kernel_rfl))
  t0 := Tryd.underlying0
  a0 := Tryd.isAgg0
  z0 := Tryd.sizeOf0
  v0 := Tryd.zeroValue0
  t3 := Tryd.underlying3
  a3 := Tryd.isAgg3
  z3 := Tryd.sizeOf3
  v3 := Tryd.zeroValue3
  t9 := Tryd.underlying9
  a9 := Tryd.isAgg9
  z9 := Tryd.sizeOf9
  v9 := Tryd.zeroValue9
  t37 := Tryd.underlying71
  a37 := Tryd.isAgg71
  z37 := Tryd.sizeOf71
  v37 := Tryd.zeroValue71
  t70 := Tryd.underlying82
  a70 := Tryd.isAgg82
  z70 := Tryd.sizeOf82
  v70 := Tryd.zeroValue82
  t72 := Tryd.underlying84
  a72 := Tryd.isAgg84
  z72 := Tryd.sizeOf84
  v72 := Tryd.zeroValue84
  t127 := Tryd.underlying109
  a127 := Tryd.isAgg109
  z127 := Tryd.sizeOf109
  v127 := Tryd.zeroValue109 }
theorem Tryd.Builder_Extra_169 : Builder.Extra Tryd.prog Tryd.lays169_ren := {
  sizeBuilder := by kernel_rfl
  liesBuilder := by kernel_rfl
  t5 := Tryd.underlying5
  a5 := Tryd.isAgg5
  z5 := Tryd.sizeOf5
  v5 := Tryd.zeroValue5
  infoByte := by kernel_rfl
  cellsByte := by kernel_rfl
  sizeByte := by kernel_rfl
  neB5 := by decide }
open Go.RowKit in
open Go.RowKit in
open Go.RowKit in
open Go.RowKit in
open Go.RowKit in
def Tryd.lays156_ren : Go.Shelf.Ren := ⟨fun | 156 => 54 | 165 => 74 | 166 => 51 | 169 => 52 | 240 => 72 | 241 => 82 | 276 => 80 | 277 => 90 | n => n, fun | 31 => 90 | 9 => 9 | 3 => 3 | 4 => 4 | 0 => 0 | 20 => 20 | 72 => 84 | 76 => 87 | 70 => 82 | 37 => 71 | 75 => 86 | 127 => 109 | 164 => 117 | 5 => 5 | 80 => 89 | n => n, fun | n => n⟩
theorem Tryd.lays156 : Go.Proofs.Lays.n156 Tryd.prog Tryd.lays156_ren := {
  mixed := by kernel_rfl
  f156 := Tryd.func54.trans (congrArg some (by kernel_rfl))
  f165 := Tryd.func74.trans (congrArg some (by kernel_rfl))
  f166 := Tryd.func51.trans (congrArg some (by kernel_rfl))
  f169 := Tryd.func52.trans (congrArg some (by kernel_rfl))
  f240 := Tryd.func72.trans (congrArg some (by kernel_rfl))
  f241 := Tryd.func82.trans (congrArg some (by kernel_rfl))
  f276 := Tryd.func80.trans (congrArg some (by kernel_rfl))
  f277 := Tryd.func90.trans (congrArg some (by kernel_rfl))
  t0 := Tryd.underlying0
  a0 := Tryd.isAgg0
  z0 := Tryd.sizeOf0
  v0 := Tryd.zeroValue0
  t3 := Tryd.underlying3
  a3 := Tryd.isAgg3
  z3 := Tryd.sizeOf3
  v3 := Tryd.zeroValue3
  t4 := Tryd.underlying4
  a4 := Tryd.isAgg4
  z4 := Tryd.sizeOf4
  v4 := Tryd.zeroValue4
  t9 := Tryd.underlying9
  a9 := Tryd.isAgg9
  z9 := Tryd.sizeOf9
  v9 := Tryd.zeroValue9
  t20 := Tryd.underlying20
  a20 := Tryd.isAgg20
  z20 := Tryd.sizeOf20
  v20 := Tryd.zeroValue20
  t31 := Tryd.underlying90
  a31 := Tryd.isAgg90
  z31 := Tryd.sizeOf90
  v31 := Tryd.zeroValue90
  t37 := Tryd.underlying71
  a37 := Tryd.isAgg71
  z37 := Tryd.sizeOf71
  v37 := Tryd.zeroValue71
  t70 := Tryd.underlying82
  a70 := Tryd.isAgg82
  z70 := Tryd.sizeOf82
  v70 := Tryd.zeroValue82
  t72 := Tryd.underlying84
  a72 := Tryd.isAgg84
  z72 := Tryd.sizeOf84
  v72 := Tryd.zeroValue84
  t75 := Tryd.underlying86
  a75 := Tryd.isAgg86
  z75 := Tryd.sizeOf86
  v75 := Tryd.zeroValue86
  t76 := Tryd.underlying87
  a76 := Tryd.isAgg87
  z76 := Tryd.sizeOf87
  v76 := Tryd.zeroValue87
  t127 := Tryd.underlying109
  a127 := Tryd.isAgg109
  z127 := Tryd.sizeOf109
  v127 := Tryd.zeroValue109
  t164 := Tryd.underlying117
  a164 := Tryd.isAgg117
  z164 := Tryd.sizeOf117
  v164 := Tryd.zeroValue117 }
theorem Tryd.Builder_Extra_156 : Builder.Extra Tryd.prog Tryd.lays156_ren := {
  sizeBuilder := by kernel_rfl
  liesBuilder := by kernel_rfl
  t5 := Tryd.underlying5
  a5 := Tryd.isAgg5
  z5 := Tryd.sizeOf5
  v5 := Tryd.zeroValue5
  infoByte := by kernel_rfl
  cellsByte := by kernel_rfl
  sizeByte := by kernel_rfl
  neB5 := by decide }
open Go.RowKit in
open Go.RowKit in
theorem Tryd.strings_Join (bk o c : Nat) (xs : List ByteArray) (sep : ByteArray) (w : World) (hcells : ∀ (j : Nat) x, xs[j]? = some x → w.cell? ⟨bk, o + j, none⟩ = some (.string x)) (hbk : bk < w.heap.size) (hN : xs.length ≤ 140737488355328) (hcap : xs.length ≤ c) (hlen : (Lib.join (xs.map (·.data.toList)) sep.data.toList).length ≤ 140737488355328) :
    Calls Tryd.prog 54 #[.slice (some ⟨bk, o, none⟩) xs.length c, .string sep] w fun e w' => e = .returned (.string ⟨(Lib.join (xs.map (·.data.toList)) sep.data.toList).toArray⟩) ∧ Below w.heap.size w w' := Any.strings_Join Tryd.lays156 Tryd.Builder_Extra_156 bk o c xs sep w hcells hbk hN hcap hlen
open Go.RowKit in
open Go.RowKit in
open Go.RowKit in
open Go.RowKit in
open Go.RowKit in
open Go.RowKit in
open Go.RowKit in
open Go.RowKit in
open Go.Lib in
open Go.Lib in
open Go.Lib in
open Go.Lib in
open Go.RowKit Go.Sort Go.Lib in
def Tryd.laysM246_ren : Go.Shelf.Ren := ⟨fun | 246 => 81 | 283 => 86 | 284 => 87 | 285 => 88 | 286 => 89 | 129 => 94 | 317 => 93 | 318 => 95 | 319 => 96 | 320 => 97 | 337 => 100 | 338 => 101 | n => n, fun | 2 => 2 | 3 => 3 | 9 => 9 | 4 => 4 | 171 => 123 | 0 => 0 | 53 => 124 | 37 => 71 | 5 => 5 | 173 => 127 | 212 => 137 | 51 => 138 | 20 => 20 | 213 => 139 | 46 => 141 | 232 => 145 | 233 => 146 | n => n, fun | 17 => 0 | 18 => 2 | 19 => 3 | n => n⟩
open Go.RowKit Go.Sort Go.Lib in
open Go.RowKit Go.Sort Go.Lib in
def Tryd.laysM173_ren : Go.Shelf.Ren := ⟨fun | 173 => 73 | 246 => 81 | 283 => 86 | 284 => 87 | 285 => 88 | 286 => 89 | 129 => 94 | 317 => 93 | 318 => 95 | 319 => 96 | 320 => 97 | 337 => 100 | 338 => 101 | n => n, fun | 2 => 2 | 3 => 3 | 9 => 9 | 4 => 4 | 171 => 123 | 0 => 0 | 53 => 124 | 37 => 71 | 5 => 5 | 173 => 127 | 212 => 137 | 51 => 138 | 20 => 20 | 213 => 139 | 46 => 141 | 232 => 145 | 233 => 146 | n => n, fun | 17 => 0 | 18 => 2 | 19 => 3 | n => n⟩
theorem Tryd.laysM173 : Go.Proofs.LaysM.n173 Tryd.prog Tryd.laysM173_ren := {
  mixed := by kernel_rfl
  f129 := Tryd.func94.trans (congrArg some (by kernel_rfl))
  f173 := Tryd.func73.trans (congrArg some (by kernel_rfl))
  f246 := Tryd.func81.trans (congrArg some (by kernel_rfl))
  f283 := Tryd.func86.trans (congrArg some (by kernel_rfl))
  f284 := Tryd.func87.trans (congrArg some (by kernel_rfl))
  f285 := Tryd.func88.trans (congrArg some (by kernel_rfl))
  f286 := Tryd.func89.trans (congrArg some (by kernel_rfl))
  f317 := Tryd.func93.trans (congrArg some (by kernel_rfl))
  f318 := Tryd.func95.trans (congrArg some (by kernel_rfl))
  f319 := Tryd.func96.trans (congrArg some (by kernel_rfl))
  f320 := Tryd.func97.trans (congrArg some (by kernel_rfl))
  f337 := Tryd.func100.trans (congrArg some (by kernel_rfl))
  f338 := Tryd.func101.trans (congrArg some (by kernel_rfl))
  t0 := Tryd.underlying0
  a0 := Tryd.isAgg0
  z0 := Tryd.sizeOf0
  v0 := Tryd.zeroValue0
  t2 := Tryd.underlying2
  a2 := Tryd.isAgg2
  z2 := Tryd.sizeOf2
  v2 := Tryd.zeroValue2
  t3 := Tryd.underlying3
  a3 := Tryd.isAgg3
  z3 := Tryd.sizeOf3
  v3 := Tryd.zeroValue3
  t4 := Tryd.underlying4
  a4 := Tryd.isAgg4
  z4 := Tryd.sizeOf4
  v4 := Tryd.zeroValue4
  t5 := Tryd.underlying5
  a5 := Tryd.isAgg5
  z5 := Tryd.sizeOf5
  v5 := Tryd.zeroValue5
  t9 := Tryd.underlying9
  a9 := Tryd.isAgg9
  z9 := Tryd.sizeOf9
  v9 := Tryd.zeroValue9
  t20 := Tryd.underlying20
  a20 := Tryd.isAgg20
  z20 := Tryd.sizeOf20
  v20 := Tryd.zeroValue20
  t37 := Tryd.underlying71
  a37 := Tryd.isAgg71
  z37 := Tryd.sizeOf71
  v37 := Tryd.zeroValue71
  t46 := Tryd.underlying141
  a46 := Tryd.isAgg141
  z46 := Tryd.sizeOf141
  v46 := Tryd.zeroValue141
  t51 := Tryd.underlying138
  a51 := Tryd.isAgg138
  z51 := Tryd.sizeOf138
  v51 := Tryd.zeroValue138
  t53 := Tryd.underlying124
  a53 := Tryd.isAgg124
  z53 := Tryd.sizeOf124
  v53 := Tryd.zeroValue124
  t171 := Tryd.underlying123
  a171 := Tryd.isAgg123
  z171 := Tryd.sizeOf123
  v171 := Tryd.zeroValue123
  t173 := Tryd.underlying127
  a173 := Tryd.isAgg127
  z173 := Tryd.sizeOf127
  v173 := Tryd.zeroValue127
  t212 := Tryd.underlying137
  a212 := Tryd.isAgg137
  z212 := Tryd.sizeOf137
  v212 := Tryd.zeroValue137
  t213 := Tryd.underlying139
  a213 := Tryd.isAgg139
  z213 := Tryd.sizeOf139
  t232 := Tryd.underlying145
  a232 := Tryd.isAgg145
  z232 := Tryd.sizeOf145
  v232 := Tryd.zeroValue145
  t233 := Tryd.underlying146
  a233 := Tryd.isAgg146
  z233 := Tryd.sizeOf146
  v233 := Tryd.zeroValue146
  g17 := by kernel_rfl
  g18 := by kernel_rfl
  g19 := by kernel_rfl
  i0 := by kernel_rfl
  i2 := by kernel_rfl
  i3 := by kernel_rfl
  i4 := by kernel_rfl
  i5 := by kernel_rfl
  i9 := by kernel_rfl
  i20 := by kernel_rfl
  i37 := by kernel_rfl
  i46 := by kernel_rfl
  i51 := by kernel_rfl
  i53 := by kernel_rfl
  i171 := by kernel_rfl
  i173 := by kernel_rfl
  i212 := by kernel_rfl
  i232 := by kernel_rfl
  i233 := by kernel_rfl
  m17 := by kernel_rfl
  m18 := by kernel_rfl
  m19 := by kernel_rfl }
open Go.RowKit Go.Sort Go.Lib in
theorem Tryd.strconv_FormatInt_10 (n : Int) (h0 : -9223372036854775808 ≤ n) (h1 : n ≤ 9223372036854775807) (w : World) (htab : Lib.TabIs Tryd.prog w "internal/strconv.uint64pow10" .u64 Lib.pow10Tab) :
    Calls Tryd.prog 73 #[.int .i64 n, .int .i64 10] w fun e w' => e = .returned (.string ⟨(Lib.itoa n).toArray⟩) ∧ ∃ k os, w' = grow (w.drewN k) os := Any.strconv_FormatInt_10 Tryd.laysM173 n h0 h1 w htab
def Tryd.lays173_ren : Go.Shelf.Ren := ⟨fun | 173 => 73 | 246 => 81 | 283 => 86 | 284 => 87 | 285 => 88 | 286 => 89 | 129 => 94 | 317 => 93 | 318 => 95 | 319 => 96 | 320 => 97 | 337 => 100 | 338 => 101 | n => n, fun | 2 => 2 | 3 => 3 | 9 => 9 | 4 => 4 | 171 => 123 | 0 => 0 | 53 => 124 | 37 => 71 | 5 => 5 | 173 => 127 | 212 => 137 | 51 => 138 | 20 => 20 | 213 => 139 | 46 => 141 | 232 => 145 | 233 => 146 | n => n, fun | 17 => 0 | 18 => 2 | 19 => 3 | n => n⟩
theorem Tryd.lays173 : Go.Proofs.Lays.n173 Tryd.prog Tryd.lays173_ren := {
  mixed := by kernel_rfl
  f129 := Tryd.func94.trans (congrArg some (by kernel_rfl))
  f173 := Tryd.func73.trans (congrArg some (by kernel_rfl))
  f246 := Tryd.func81.trans (congrArg some (by kernel_rfl))
  f283 := Tryd.func86.trans (congrArg some (by kernel_rfl))
  f284 := Tryd.func87.trans (congrArg some (by kernel_rfl))
  f285 := Tryd.func88.trans (congrArg some (by kernel_rfl))
  f286 := Tryd.func89.trans (congrArg some (by kernel_rfl))
  f317 := Tryd.func93.trans (congrArg some (by kernel_rfl))
  f318 := Tryd.func95.trans (congrArg some (by kernel_rfl))
  f319 := Tryd.func96.trans (congrArg some (by kernel_rfl))
  f320 := Tryd.func97.trans (congrArg some (by kernel_rfl))
  f337 := Tryd.func100.trans (congrArg some (by kernel_rfl))
  f338 := Tryd.func101.trans (congrArg some (by kernel_rfl))
  t0 := Tryd.underlying0
  a0 := Tryd.isAgg0
  z0 := Tryd.sizeOf0
  v0 := Tryd.zeroValue0
  t2 := Tryd.underlying2
  a2 := Tryd.isAgg2
  z2 := Tryd.sizeOf2
  v2 := Tryd.zeroValue2
  t3 := Tryd.underlying3
  a3 := Tryd.isAgg3
  z3 := Tryd.sizeOf3
  v3 := Tryd.zeroValue3
  t4 := Tryd.underlying4
  a4 := Tryd.isAgg4
  z4 := Tryd.sizeOf4
  v4 := Tryd.zeroValue4
  t5 := Tryd.underlying5
  a5 := Tryd.isAgg5
  z5 := Tryd.sizeOf5
  v5 := Tryd.zeroValue5
  t9 := Tryd.underlying9
  a9 := Tryd.isAgg9
  z9 := Tryd.sizeOf9
  v9 := Tryd.zeroValue9
  t20 := Tryd.underlying20
  a20 := Tryd.isAgg20
  z20 := Tryd.sizeOf20
  v20 := Tryd.zeroValue20
  t37 := Tryd.underlying71
  a37 := Tryd.isAgg71
  z37 := Tryd.sizeOf71
  v37 := Tryd.zeroValue71
  t46 := Tryd.underlying141
  a46 := Tryd.isAgg141
  z46 := Tryd.sizeOf141
  v46 := Tryd.zeroValue141
  t51 := Tryd.underlying138
  a51 := Tryd.isAgg138
  z51 := Tryd.sizeOf138
  v51 := Tryd.zeroValue138
  t53 := Tryd.underlying124
  a53 := Tryd.isAgg124
  z53 := Tryd.sizeOf124
  v53 := Tryd.zeroValue124
  t171 := Tryd.underlying123
  a171 := Tryd.isAgg123
  z171 := Tryd.sizeOf123
  v171 := Tryd.zeroValue123
  t173 := Tryd.underlying127
  a173 := Tryd.isAgg127
  z173 := Tryd.sizeOf127
  v173 := Tryd.zeroValue127
  t212 := Tryd.underlying137
  a212 := Tryd.isAgg137
  z212 := Tryd.sizeOf137
  v212 := Tryd.zeroValue137
  t213 := Tryd.underlying139
  a213 := Tryd.isAgg139
  z213 := Tryd.sizeOf139
  t232 := Tryd.underlying145
  a232 := Tryd.isAgg145
  z232 := Tryd.sizeOf145
  v232 := Tryd.zeroValue145
  t233 := Tryd.underlying146
  a233 := Tryd.isAgg146
  z233 := Tryd.sizeOf146
  v233 := Tryd.zeroValue146
  g17 := by kernel_rfl
  g18 := by kernel_rfl
  g19 := by kernel_rfl }
open Go.RowKit Go.Sort Go.Lib in
theorem Tryd.strconv_FormatInt_10_small (i : Nat) (hi : i < 100) (w : World) :
    Calls Tryd.prog 73 #[.int .i64 i, .int .i64 10] w fun e w' => e = .returned (.string ⟨(Lib.decDigits i).toArray⟩) ∧ w' = w := Any.strconv_FormatInt_10_small Tryd.lays173 i hi w
end Go.Proofs

/- The library's builder of texts: its check against copies. -/
set_option linter.unusedSimpArgs false
set_option linter.unusedVariables false
namespace Go.Ab
open Go.Proofs
set_option maxHeartbeats 1000000 in
set_option maxRecDepth 100000 in
theorem bld_check_used (b : Nat) (w : World) (h0 : w.cell? ⟨b, 0, none⟩ = some (.pointer (some ⟨b, 0, none⟩))) :
    Calls Tryd.prog 72 #[.pointer (some ⟨b, 0, none⟩)] w fun e w' => e = .returned (.tuple #[]) ∧ w' = w := by
  obtain ⟨j, hj, _⟩ := Option.map_eq_some_iff.1 (show (Tryd.prog.info? 84).map (·.size) = some 2 by kernel_rfl)
  go_enter Tryd.func72, Tryd.ntmps72
  go_wp2
  rw [Lib.run_neq_ptr_same w _ Tryd.underlying82 hj]
  go_wp2
  go_end0
  exact ⟨rfl, rfl⟩
set_option maxHeartbeats 1000000 in
set_option maxRecDepth 100000 in
theorem bld_check_fresh (b : Nat) (w : World) (h0 : w.cell? ⟨b, 0, none⟩ = some (.pointer none)) (hsh : w.shape? b = some (84, 2)) (hfz : w.frozen? ⟨b, 0, none⟩ = false) :
    Calls Tryd.prog 72 #[.pointer (some ⟨b, 0, none⟩)] w fun e w' => e = .returned (.tuple #[]) ∧ w' = w.setCell ⟨b, 0, none⟩ (.pointer (some ⟨b, 0, none⟩)) := by
  obtain ⟨j, hj, hjs⟩ := Option.map_eq_some_iff.1 (show (Tryd.prog.info? 84).map (·.size) = some 2 by kernel_rfl)
  go_enter Tryd.func72, Tryd.ntmps72
  go_wp2
  rw [Lib.run_to_unsafe w ⟨b, 0, none⟩ Tryd.underlying82 Tryd.underlying117 hj (by rw [hjs]; decide) hsh (Nat.zero_lt_succ 1)]
  simp only [Result.andThen]
  rw [Oper.upon_value]
  go_wp2
  rw [run_callFunc_extern Tryd.func80 (by kernel_rfl) (by kernel_rfl) (by kernel_rfl) (e := Extern.AbiNoEscape.same) (by kernel_rfl)]
  rw [Lib.run_noEscape]
  simp only [Result.andThen]
  rw [Oper.upon_value]
  go_wp2
  rw [Lib.run_from_unsafe w ⟨b, 0, none⟩ Tryd.underlying117 Tryd.underlying82 hj hsh (by kernel_rfl)]
  simp only [Result.andThen]
  rw [Oper.upon_value]
  go_wp2
  go_end0
  exact ⟨rfl, rfl⟩
end Go.Ab

/- The library's builder of texts: WriteString. -/
set_option linter.unusedSimpArgs false
set_option linter.unusedVariables false
namespace Go.Ab
open Go.Proofs Go.Lib
theorem app_own {P : Program} (w : World) (t u ty e : TypeId) (i : TypeInfo) (ht : P.underlying t = some (.slice e)) (hu : P.underlying u = some .string) (hi : P.info? e = some i) (hz : i.zero = some (.int .u8 0))
    (hsize : i.size = 1) (hby : i.bytes = 1) (v : Value) (n : Nat) (xs : List Value) (hown : w.ownsRow 0 e 1 v n xs) (s : ByteArray)
    (h63 : n + s.size ≤ maxLen) (hbytes : n + s.size ≤ 140737488355328) :
    ∃ v' w', (Builtin.append_ #[t, u] ty #[v, .string s]).run P w = .ok v' w' ∧ w'.ownsRow 0 e 1 v' (n + s.size) (xs ++ strCells s) ∧ w.grownBy w' v.ownBlock ∧
      (v'.ownBlock = v.ownBlock ∨ v'.ownBlock = some w.heap.size) ∧ (v = .slice none 0 0 ∧ s.size = 0 → v' = .slice none 0 0) := by
  obtain ⟨v', w', hr, h1, h2, h3⟩ := run_append_own_string (P := P) w 0 t u ty e i ht hu hi hz hsize hby v n xs hown s h63 hbytes (Nat.zero_le _)
  refine ⟨v', w', hr, h1, h2, ?_, h3.2⟩
  have hxl : xs.length = n := by simpa using hown.1
  have hown0 := hown
  rcases hown.2 with ⟨rfl, rfl⟩ | ⟨g, cap, cur, rfl, hbg, hg, hnc, hcm, hcs, htake⟩
  · by_cases hm : s.size = 0
    · left; rw [h3.2 ⟨rfl, hm⟩]
    · have hr2 := run_append_nil_string (P := P) w t u ty e i (.int .u8 0) ht hu hi hz s (by omega) (by simp only [maxLen] at h63; omega) (by rw [hby]; omega)
      rw [hr] at hr2
      injection hr2 with e1 e2
      right; rw [e1]; rfl
  · by_cases hroom : n + s.size ≤ cap
    · have hcs' : cur.size = cap := by simpa using hcs
      have hr2 := run_append_room_string (P := P) w t u ty e i ht hu hi hsize g n cap cur hg s hroom (by omega)
      rw [hr] at hr2
      injection hr2 with e1 e2
      left; rw [e1]; rfl
    · have holds : ∀ j u, xs[j]? = some u → w.cell? ((⟨g, 0, none⟩ : Addr).add j) = some u := hown0.cells (g := g) rfl
      have hr2 := run_append_grow_string (P := P) w t u ty e i (.int .u8 0) ht hu hi hz ⟨g, 0, none⟩ n cap xs (by rw [hsize]; simpa using hxl) holds s (by omega) (by simp only [maxLen] at h63; omega) (by rw [hby]; exact growslice_fits (by omega) (by omega))
      rw [hr] at hr2
      injection hr2 with e1 e2
      right; rw [e1]; rfl
theorem wp_app_own {P : Program} {w : World} {ops : Array Oper} {rest : List Oper} {o : Oper} {a : Act} {Q : Exit → Act → World → Prop} (hgd : o.guard = none) (sl x : Operand) (t u : TypeId)
    (ho : o.op = .call { callee := .builtin .append, args := #[sl, x], argTypes := #[t, u] })
    (e : TypeId) (i : TypeInfo) (ht : P.underlying t = some (.slice e)) (hu : P.underlying u = some .string) (hi : P.info? e = some i) (hz : i.zero = some (.int .u8 0))
    (hsize : i.size = 1) (hby : i.bytes = 1)
    (v : Value) (n : Nat) (xs : List Value) (hs : a.eval sl = v) (hown : w.ownsRow 0 e 1 v n xs) (s : ByteArray) (hx : a.eval x = .string s)
    (h63 : n + s.size ≤ maxLen) (hbytes : n + s.size ≤ 140737488355328)
    (h : ∀ v' w', w'.ownsRow 0 e 1 v' (n + s.size) (xs ++ strCells s) → w.grownBy w' v.ownBlock → (v'.ownBlock = v.ownBlock ∨ v'.ownBlock = some w.heap.size) ∧ (v = .slice none 0 0 ∧ s.size = 0 → v' = .slice none 0 0) → wpList P ops Q rest (a.put o.dst v') w') : wpList P ops Q (o :: rest) a w := by
  refine wpList_plain hgd fun K hK => ?_
  obtain ⟨v', w', hr, h2, h3, h4⟩ := app_own (P := P) w t u o.type e i ht hu hi hz hsize hby v n xs hown s h63 hbytes
  unfold Oper.wp execOp
  simp only [ho, resolve, invoke, builtin, Sem.run_bind, Sem.run_pure, Result.andThen_ok, List.map_toArray, List.map_cons, List.map_nil, hs, hx, hr]
  exact hK _ _ (h v' w' h2 h3 h4)
end Go.Ab

/- The library's builder of texts: WriteString, walked. -/
set_option linter.unusedSimpArgs false
set_option linter.unusedVariables false
namespace Go.Ab
open Go.Proofs Go.Lib
theorem bld_check (b : Nat) (p v : Value) (w : World) (hp : p = .pointer none ∨ p = .pointer (some ⟨b, 0, none⟩)) (hb : w.heap[b]? = some (.cells #[p, v] 84 (0, 0))) :
    Calls Tryd.prog 72 #[.pointer (some ⟨b, 0, none⟩)] w fun e w' => e = .returned (.tuple #[]) ∧ w'.heap[b]? = some (.cells #[.pointer (some ⟨b, 0, none⟩), v] 84 (0, 0)) ∧ w'.os = w.os ∧ w'.tape = w.tape ∧ w'.output = w.output ∧ w'.heap.size = w.heap.size ∧ ∀ c, c ≠ b → w'.heap[c]? = w.heap[c]? := by
  rcases hp with rfl | rfl
  · refine (bld_check_fresh b w (by rw [Lib.cell_of_heap hb]; rfl) (by simp [World.shape?, hb]) (Lib.frozen_of_heap hb 0)).mono ?_
    rintro e w' ⟨rfl, rfl⟩
    exact ⟨rfl, by simp [World.setCell, Array.getElem?_modify, hb], rfl, rfl, rfl, by simp, fun c hc => heap_setCell_other w _ c _ hc⟩
  · refine (bld_check_used b w (by rw [Lib.cell_of_heap hb]; rfl)).mono ?_
    rintro e w' ⟨rfl, rfl⟩
    exact ⟨rfl, hb, rfl, rfl, rfl, rfl, fun _ _ => rfl⟩
set_option maxHeartbeats 2000000 in
set_option maxRecDepth 100000 in
theorem bld_write (b : Nat) (p v : Value) (bs : List Value) (s : ByteArray) (w : World) (hp : p = .pointer none ∨ p = .pointer (some ⟨b, 0, none⟩)) (hb : w.heap[b]? = some (.cells #[p, v] 84 (0, 0)))
    (hown : w.ownsRow 0 5 1 v bs.length bs) (hne : v.ownBlock ≠ some b) (hlen : bs.length + s.size ≤ 140737488355328) :
    Calls Tryd.prog 51 #[.pointer (some ⟨b, 0, none⟩), .string s] w fun e w' => e = .returned (.tuple #[.int .i64 s.size, .nilIface]) ∧
      ∃ v', w'.heap[b]? = some (.cells #[.pointer (some ⟨b, 0, none⟩), v'] 84 (0, 0)) ∧ w'.ownsRow 0 5 1 v' (bs.length + s.size) (bs ++ strCells s) ∧ w'.os = w.os ∧ w'.tape = w.tape ∧ w'.output = w.output ∧ w.heap.size ≤ w'.heap.size ∧
        (∀ c, c < w.heap.size → c ≠ b → some c ≠ v.ownBlock → w'.heap[c]? = w.heap[c]?) ∧ (v'.ownBlock = v.ownBlock ∨ v'.ownBlock = some w.heap.size) ∧ (v = .slice none 0 0 ∧ s.size = 0 → v' = .slice none 0 0) := by
  obtain ⟨i0, hi, hz0, hz1, hz2⟩ := info_parts Tryd.Builder_Extra_169.infoByte
  have e240 : ∀ args w, (callFunc 72 args).run Tryd.prog w = .ok (.enter 72 args) w := enters_of Tryd.func72 (by kernel_rfl) rfl
  go_enter Tryd.func51, Tryd.ntmps51
  go_wp2_with (go_at_fn 72; refine (bld_check b p v _ hp hb).mono ?_)
  rintro e w1 ⟨rfl, hb1, ho1, ht1, hp1, hs1, hk1⟩
  have hown1 : w1.ownsRow 0 5 1 v bs.length bs := by
    refine ⟨hown.1, hown.2.imp id ?_⟩
    rintro ⟨g, cap, cur, hv, h1, h2, h3⟩
    refine ⟨g, cap, cur, hv, h1, ?_, h3⟩
    rw [hk1 g (fun e => hne (by rw [hv, e]; rfl))]; exact h2
  have c0 : w1.cell? ⟨b, 0, none⟩ = some (.pointer (some ⟨b, 0, none⟩)) := by rw [Lib.cell_of_heap hb1]; rfl
  have c1 : w1.cell? ⟨b, 1, none⟩ = some v := by rw [Lib.cell_of_heap hb1]; rfl
  go_wp2_with (at_builtin; refine wp_app_own rfl _ _ 71 9 rfl 5 i0 Tryd.underlying71 Tryd.underlying9 hi hz0 hz1 hz2 _ _ _ rfl hown1 s rfl ?c3 ?c4 ?_)
  case c3 => unfold maxLen; omega
  case c4 => omega
  intro v' w2 hown' hgrow hblk hnil
  have hlt : b < w1.heap.size := by
    rcases Nat.lt_or_ge b w1.heap.size with h' | h'
    · exact h'
    · simp [Array.getElem?_eq_none h'] at hb1
  have hb2 : w2.heap[b]? = some (.cells #[.pointer (some ⟨b, 0, none⟩), v] 84 (0, 0)) := by
    rw [hgrow.block b hlt (fun e => hne e.symm)]
    exact hb1
  have d0 : w2.cell? ⟨b, 0, none⟩ = some (.pointer (some ⟨b, 0, none⟩)) := by rw [Lib.cell_of_heap hb2]; rfl
  have d1 : w2.cell? ⟨b, 1, none⟩ = some v := by rw [Lib.cell_of_heap hb2]; rfl
  have f1 : w2.frozen? ⟨b, 1, none⟩ = false := Lib.frozen_of_heap hb2 1
  obtain ⟨ao, n', cap, rfl⟩ : ∃ ao n' cap, v' = .slice ao n' cap := by
    rcases hown'.2 with ⟨hv, _⟩ | ⟨g, cap, cur, hv, _⟩
    · exact ⟨_, _, _, hv⟩
    · exact ⟨_, _, _, hv⟩
  go_wp2
  go_ret2
  have hne' : (Value.slice ao n' cap).ownBlock ≠ some b := by
    rcases hblk with h | h
    · rw [h]; exact hne
    · rw [h]; intro e; cases e; omega
  refine ⟨rfl, .slice ao n' cap, by simp [World.setCell, Array.getElem?_modify, hb2], ?_, hgrow.os.trans ho1, hgrow.tape.trans ht1, hgrow.output.trans hp1, ?_, fun c hc hcb hcv => ?_, ?_, fun h => hnil h.1 (by simpa using h.2)⟩
  · exact hown'.kept (row := some b) ⟨rfl, rfl, rfl, by simp [World.setCell], fun k _ hk => heap_setCell_other _ _ _ _ (fun e => hk (by simp [e]))⟩ (Or.inr hne')
  · have := hgrow.size; simp; omega
  · rw [heap_setCell_other _ _ _ _ hcb, hgrow.block c (by omega) hcv, hk1 c hcb]
  · exact hblk
end Go.Ab

/- Texts: digits and lists of numbers (the reference). -/
set_option linter.unusedSimpArgs false
set_option linter.unusedVariables false
namespace Go.Ab
open Go.Proofs
def txt (l : List UInt8) : ByteArray := ⟨l.toArray⟩
def txtV (l : List UInt8) : T := .v (.string (txt l))
theorem txt_size (l : List UInt8) : (txt l).size = l.length := by simp [txt, ByteArray.size]
theorem txt_append (a b : List UInt8) : txt a ++ txt b = txt (a ++ b) := by
  apply ByteArray.ext
  simp [txt]
theorem dec_len : ∀ (k n : Nat), 1 ≤ k → n < 10 ^ k → (Lib.decDigits n).length ≤ k
  | 0, n, h, _ => by omega
  | k + 1, n, _, h => by
    rw [Lib.decDigits]
    split
    · simp
    · rename_i h10
      have hk : 1 ≤ k := by
        rcases Nat.eq_zero_or_pos k with e | e
        · subst e; simp at h; omega
        · exact e
      have := dec_len k (n / 10) hk (by rw [Nat.pow_succ] at h; omega)
      rw [List.length_append]; simp; omega
theorem dec19 {n : Nat} (h : n ≤ 9223372036854775807) : (Lib.decDigits n).length ≤ 19 := dec_len 19 n (by omega) (by omega)
theorem wrap8 {n : Int} (h0 : 0 ≤ n) (h1 : n < 256) : IntKind.u8.wrap n = n := by
  simp [IntKind.wrap, IntKind.bits, IntKind.signed]
  omega
theorem dig_byte {n : Nat} (h : n < 10) : IntKind.u8.wrap (IntKind.i64.wrap (48 + (n : Int))) = ((48 + n : Nat) : Int) := by
  rw [wrap64 (by omega) (by omega), wrap8 (by omega) (by omega)]; omega
section
attribute [-go_sem] load1C load1V fldC lenC idxC loadNV
theorem spec_l01Dec_ok (n : Nat) : n ≤ 9223372036854775807 → Pure Tryd.prog 18 [.i n] (txtV (Lib.decDigits n)) := by
  induction n using Nat.strongRecOn with
  | _ n ih =>
    intro hn
    refine fun_spec_l01Dec (by simp) ?_
    by_cases h10 : n < 10
    · simp -implicitDefEqProofs only [go_sem, evR, ints, rows, rat, rats, c_spec_l01Dec, decide_eq_true (show (n : Int) < 10 by omega), dig_byte h10]
      rw [Lib.decDigits, dif_pos h10]; rfl
    · have hih := ih (n / 10) (by omega) (by omega)
      have hq : IntKind.i64.wrap ((n : Int).tdiv 10) = ((n / 10 : Nat) : Int) := by rw [Int.tdiv_eq_ediv_of_nonneg (by omega), wrap64 (by omega) (by omega)]; omega
      have hr : (n : Int).tmod 10 = ((n % 10 : Nat) : Int) := by rw [Int.tmod_eq_emod_of_nonneg (by omega)]; omega
      have hl := dec19 (n := n / 10) (by omega)
      have hb := dig_byte (n := n % 10) (by omega)
      simp -implicitDefEqProofs only [go_sem, evR, ints, rows, rat, rats, c_spec_l01Dec, decide_eq_false (show ¬ (n : Int) < 10 by omega), hq]
      refine ⟨by decide, ?_⟩
      refine CallV.pure hih [] rfl Tryd.call18 (fun e R' hR => ?_) (by first | trivial | simp [T.noSh, T.noShL, rat]) (fun _ => rfl) ?_
      · simp -implicitDefEqProofs only [agR, Nat.reduceLeDiff, Nat.reduceSub, vaR, go_sem, ints, rows, rat, rats, ratsO, rtR, intsO, rowsO]
      simp -implicitDefEqProofs only [go_sem, evR, ints, rows, rat, rats, hr, hb, txtV]
      have hd : Lib.decDigits n = Lib.decDigits (n / 10) ++ [UInt8.ofNat (48 + n % 10)] := by rw [Lib.decDigits, dif_neg h10]
      refine ⟨by decide, by rw [txt_size]; simp; omega, ?_⟩
      rw [hd, ← txt_append]; rfl
theorem spec_l01Number_ok (n : Int) (h0 : -9223372036854775807 ≤ n) (h1 : n ≤ 9223372036854775807) : Pure Tryd.prog 17 [.i n] (txtV (Lib.itoa n)) := by
  refine fun_spec_l01Number (by simp) ?_
  by_cases hn : n < 0
  · have hd := spec_l01Dec_ok n.natAbs (by omega)
    have hw : IntKind.i64.wrap (0 - n) = ((n.natAbs : Nat) : Int) := by rw [wrap64 (by omega) (by omega)]; omega
    have hl := dec19 (n := n.natAbs) (by omega)
    simp -implicitDefEqProofs only [go_sem, evR, ints, rows, rat, rats, c_spec_l01Number, decide_eq_true hn, hw]
    refine CallW.pure hd [] rfl Tryd.call18 ?_ (by first | trivial | simp [T.noSh, T.noShL, rat]) rfl ?_
    · simp -implicitDefEqProofs only [agR, Nat.reduceLeDiff, Nat.reduceSub, vaR, go_sem, ints, rows, rat, rats, ratsO, rtR, intsO, rowsO]
    simp -implicitDefEqProofs only [go_sem, evR, ints, rows, rat, rats, txtV]
    have hd2 : Lib.itoa n = [45] ++ Lib.decDigits n.natAbs := by rw [Lib.itoa, if_pos hn]; rfl
    refine ⟨by rw [txt_size]; simp; omega, ?_⟩
    rw [hd2, ← txt_append]; rfl
  · have hd := spec_l01Dec_ok n.toNat (by omega)
    rw [show ((n.toNat : Nat) : Int) = n by omega] at hd
    simp -implicitDefEqProofs only [go_sem, evR, ints, rows, rat, rats, c_spec_l01Number, decide_eq_false hn]
    refine CallW.pure hd [] rfl Tryd.call18 ?_ (by first | trivial | simp [T.noSh, T.noShL, rat]) rfl ?_
    · simp -implicitDefEqProofs only [agR, Nat.reduceLeDiff, Nat.reduceSub, vaR, go_sem, ints, rows, rat, rats, ratsO, rtR, intsO, rowsO]
    simp -implicitDefEqProofs only [go_sem, evR, ints, rows, rat, rats, txtV]
    rw [Lib.itoa, if_neg hn]
end
end Go.Ab

/- Texts: lists of numbers (the reference). -/
set_option linter.unusedSimpArgs false
set_option linter.unusedVariables false
namespace Go.Ab
open Go.Proofs
def numT (sep : List UInt8) (l : List Int) : List UInt8 := Lib.join (l.map Lib.itoa) sep
theorem tail_snoc (sep : List UInt8) (r : List (List UInt8)) (y : List UInt8) : Lib.joinTail sep (r ++ [y]) = Lib.joinTail sep r ++ (sep ++ y) := by
  simp [Lib.joinTail]
theorem numT_snoc {sep : List UInt8} {l : List Int} (h : l ≠ []) (x : Int) : numT sep (l ++ [x]) = numT sep l ++ (sep ++ Lib.itoa x) := by
  match l, h with
  | a :: l, _ =>
    simp only [numT, List.cons_append, List.map_cons, List.map_append, List.map_nil, Lib.join_cons, tail_snoc, List.append_assoc]
theorem numT_one (sep : List UInt8) (x : Int) : numT sep [x] = Lib.itoa x := by rw [numT, List.map_cons, List.map_nil, Lib.join_one]
theorem itoa_len {x : Int} (h0 : -9223372036854775807 ≤ x) (h1 : x ≤ 9223372036854775807) : (Lib.itoa x).length ≤ 20 := by
  rw [Lib.itoa]
  split
  · have := dec19 (n := x.natAbs) (by omega); rw [List.length_cons]; omega
  · have := dec19 (n := x.toNat) (by omega); omega
theorem itoa_pos {x : Int} (h : 0 ≤ x) : Lib.itoa x = Lib.decDigits x.toNat := by rw [Lib.itoa, if_neg (by omega)]
theorem numT_len {s : UInt8} : ∀ (l : List Int), (∀ x ∈ l, -9223372036854775807 ≤ x ∧ x ≤ 9223372036854775807) → (numT [s] l).length ≤ 21 * l.length := by
  have key : ∀ l : List Int, (∀ x ∈ l, -9223372036854775807 ≤ x ∧ x ≤ 9223372036854775807) → (Lib.joinTail [s] (l.map Lib.itoa)).length ≤ 21 * l.length := by
    intro l
    induction l with
    | nil => intro _; simp [Lib.joinTail]
    | cons a l ih =>
      intro h
      have h1 := ih fun x hx => h x (by simp [hx])
      have h2 := itoa_len (h a (by simp)).1 (h a (by simp)).2
      have e : Lib.joinTail [s] ((a :: l).map Lib.itoa) = ([s] ++ Lib.itoa a) ++ Lib.joinTail [s] (l.map Lib.itoa) := by simp [Lib.joinTail]
      rw [e, List.length_append, List.length_append, List.length_cons, List.length_cons, List.length_nil]; omega
  intro l h
  match l, h with
  | [], _ => simp [numT, Lib.join_nil]
  | a :: l, h =>
    have h1 := key l fun x hx => h x (by simp [hx])
    have h2 := itoa_len (h a (by simp)).1 (h a (by simp)).2
    rw [numT, List.map_cons, Lib.join_cons, List.length_append, List.length_cons]; omega
section
attribute [-go_sem] load1C load1V fldC lenC idxC loadNV
theorem spec_l15List_ok (l : List Int) (hl : l.length ≤ 1000000) (h : ∀ x ∈ l, 0 ≤ x ∧ x ≤ 9223372036854775807) : Pure Tryd.prog 37 [ints l] (txtV (numT [44] l)) := by
  have hall : ∀ i, (numT [44] (l.take i)).length ≤ 21 * 1000000 := fun i => by
    have h1 := numT_len (s := 44) (l.take i) fun x hx => by have := h x (List.mem_of_mem_take hx); omega
    have h2 : (l.take i).length ≤ l.length := by rw [List.length_take]; omega
    omega
  refine fun_spec_l15List (by simp) ?_
  simp -implicitDefEqProofs only [go_sem, evR, ints, rows, rat, rats, c_spec_l15List]
  refine SemC.loopR (σ := Nat) (fun i => St.of [(0, .t (ints l)), (3, .t (txtV (numT [44] (l.take i)))), (4, .t (.i i))] []) (fun i => i ≤ l.length) (fun i => l.length - i) 0 (Weak.of _ [] [] (by simp) (by simp) ?_ trivial) (by omega) fun i hi R hn hr he => ?_
  · simp -implicitDefEqProofs only [ints, rows, Nat.reduceBEq, wkR, Nat.reduceEqDiff, ↓reduceIte, wrR, show txtV (numT [44] (List.take 0 l)) = T.v (Value.string ⟨#[]⟩) from rfl]
  · have hb := hall i
    rcases Nat.lt_or_ge i l.length with h9 | h9
    · obtain ⟨x, hx⟩ : ∃ x, l[i]? = some x := ⟨_, List.getElem?_eq_getElem h9⟩
      obtain ⟨x0, x1⟩ := h x (List.mem_of_getElem? hx)
      have hd := spec_l01Dec_ok x.toNat (by omega)
      rw [show ((x.toNat : Nat) : Int) = x by omega, ← itoa_pos x0] at hd
      have hxl := itoa_len (x := x) (by omega) x1
      rcases Nat.eq_zero_or_pos i with e | e
      · subst e
        have hnx : numT [44] (l.take 1) = Lib.itoa x := by rw [take_snoc hx, List.take_zero, List.nil_append, numT_one]
        simp -implicitDefEqProofs only [go_sem, evR, ints, rows, rat, rats, txtV, hx, decide_eq_true (show ((0 : Nat) : Int) < (l.length : Int) by omega), decide_eq_false (show ¬ (((0 : Nat) : Int) > 0) by decide)]
        refine ⟨by omega, by omega, by omega, ?_⟩
        have e0 : numT [44] [] = [] := rfl
        refine CallW.pure hd [] rfl Tryd.call18 ?_ (by first | trivial | simp [T.noSh, T.noShL, rat]) rfl ?_
        · simp -implicitDefEqProofs only [agR, Nat.reduceLeDiff, Nat.reduceSub, vaR, go_sem, ints, rows, rat, rats, ratsO, rtR, intsO, rowsO]
        simp -implicitDefEqProofs only [go_sem, evR, ints, rows, rat, rats, txtV, e0, txt_append, List.nil_append, txt_size]
        refine ⟨by (try simp); omega, ?_⟩
        refine hn _ 1 (Weak.of _ [] [] (by simp) (by simp) ?_ trivial) (by omega) (by omega)
        simp -implicitDefEqProofs only [ints, rows, Nat.reduceBEq, wkR, Nat.reduceEqDiff, ↓reduceIte, wrR, next64 h9 (by omega), hnx, txtV, show IntKind.i64.wrap (0 + 1) = 1 from rfl]
      · have hnx : numT [44] (l.take (i + 1)) = numT [44] (l.take i) ++ 44 :: Lib.itoa x := by
          rw [take_snoc hx, numT_snoc (fun e2 => by have := congrArg List.length e2; rw [List.length_take, List.length_nil] at this; omega)]; rfl
        simp -implicitDefEqProofs only [go_sem, evR, ints, rows, rat, rats, txtV, hx, decide_eq_true (show (i : Int) < (l.length : Int) by omega), decide_eq_true (show (i : Int) > 0 by omega), show (⟨#[44]⟩ : ByteArray) = txt [44] from rfl, txt_append, txt_size]
        refine ⟨by (try simp); omega, by omega, by omega, by omega, ?_⟩
        refine CallW.pure hd [] rfl Tryd.call18 ?_ (by first | trivial | simp [T.noSh, T.noShL, rat]) rfl ?_
        · simp -implicitDefEqProofs only [agR, Nat.reduceLeDiff, Nat.reduceSub, vaR, go_sem, ints, rows, rat, rats, ratsO, rtR, intsO, rowsO]
        simp -implicitDefEqProofs only [go_sem, evR, ints, rows, rat, rats, txtV, txt_append, txt_size, List.append_assoc]
        refine ⟨by (try simp); omega, ?_⟩
        refine hn _ (i + 1) (Weak.of _ [] [] (by simp) (by simp) ?_ trivial) (by omega) (by omega)
        simp -implicitDefEqProofs only [ints, rows, Nat.reduceBEq, wkR, Nat.reduceEqDiff, ↓reduceIte, wrR, next64 h9 (by omega), hnx, txtV, List.append_assoc]
    · simp -implicitDefEqProofs only [go_sem, evR, ints, rows, rat, rats, decide_eq_false (show ¬ (i : Int) < (l.length : Int) by omega)]
      refine he _ _ ?_
      rw [List.take_of_length_le h9]
      simp -implicitDefEqProofs only [go_sem, evR, ints, rows, rat, rats]
end
end Go.Ab

/- The library's texts: decimals (the program). -/
set_option linter.unusedSimpArgs false
set_option linter.unusedVariables false
namespace Go.Ab
open Go.Proofs
structure Same0 (w w' : World) : Prop where
  os : w'.os = w.os
  tape : w'.tape = w.tape
  output : w'.output = w.output
  size : w.heap.size ≤ w'.heap.size
  frame : ∀ b : Nat, b < w.heap.size → w'.heap[b]? = w.heap[b]?
theorem Same0.refl (w : World) : Same0 w w := ⟨rfl, rfl, rfl, Nat.le_refl _, fun _ _ => rfl⟩
theorem out_plain {X : Nat → Prop} {w w' : World} {hs : Nat → Option Value} {fp : Nat → List Nat} {v : Value} (hm : Mem X w [] hs fp) (h : Same0 w w') : Out X w hs fp v (.v v) [] [] fp w' := by
  have hn : ∀ r, fp r = [] := fun r => (hm.none r (by simp; omega)).2
  refine ⟨fun i t h => by simp at h, fun r _ => hn r, .rd (.v v), hm.disj, hm.nodup, by simp, fun r b hb => by rw [hn r] at hb; simp at hb, fun r b hb => by rw [hn r] at hb; simp at hb, fun b hb => by simp at hb, h.os, h.tape, h.output, h.size, fun b hb _ => h.frame b hb⟩
theorem int2 {w : World} {O : Nat → Prop} {hs : Nat → Option Value} {a b : Int} {vals : List Value} (hl : vals.length = [A.t (T.i a), A.t (T.i b)].length) (hi : ∀ i (h : i < [A.t (T.i a), A.t (T.i b)].length), Is w O hs [A.t (T.i a), A.t (T.i b)][i] (vals.getD i undef)) : vals.toArray = #[.int .i64 a, .int .i64 b] := by
  match vals, hl with
  | [x, y], _ =>
    have h0 := (hi 0 (by simp)).v_inv
    have h1 := (hi 1 (by simp)).v_inv
    simp only [List.getD_cons_zero, List.getD_cons_succ] at h0 h1
    rw [h0, h1]
theorem strconv_FormatInt_small (n : Nat) (hn : n < 100) : Pure Tryd.prog 73 [.i n, .i 10] (txtV (Lib.decDigits n)) := by
  intro X w vals hs fp hm hl hi
  rw [int2 hl hi]
  refine (Tryd.strconv_FormatInt_10_small n hn w).mono ?_
  rintro e w' ⟨rfl, rfl⟩
  exact ⟨_, _, [], [], fp, rfl, ⟨rfl, rfl⟩, rfl, out_plain hm (Same0.refl _)⟩
def powG : T := .glob (Tryd.laysM173_ren.g 17) (Lib.pow10Tab.map fun z => .int .u64 z)
theorem tab_of {w : World} {O : Nat → Prop} {x : Value} (h : Rd w O powG x) : Lib.TabIs Tryd.prog w "internal/strconv.uint64pow10" .u64 Lib.pow10Tab := by
  cases h with
  | glob b vs x e fz hO hb =>
    unfold Lib.TabIs World.var?
    rw [Tryd.laysM173.m17]
    simp only [Option.bind_some]
    rw [hb]
theorem strconv_FormatInt_G (n : Int) (h0 : -9223372036854775808 ≤ n) (h1 : n ≤ 9223372036854775807) : FunG Tryd.prog powG 73 [] [.t (.i n), .t (.i 10)] fun o r => o = [] ∧ r = txtV (Lib.itoa n) := by
  intro X w vals hs fp hm hl hi hg
  rw [int2 hl hi]
  refine (Tryd.strconv_FormatInt_10 n h0 h1 w (tab_of hg)).mono ?_
  rintro e w' ⟨rfl, k, os, rfl⟩
  refine ⟨_, _, [], [], fp, rfl, ⟨rfl, rfl⟩, rfl, out_plain hm ⟨rfl, rfl, rfl, ?_, fun b hb => ?_⟩⟩
  · show w.heap.size ≤ (w.heap ++ os).size
    rw [Array.size_append]; omega
  · show (w.heap ++ os)[b]? = w.heap[b]?
    rw [Array.getElem?_append_left hb]
section
attribute [-go_sem] load1C load1V fldC lenC idxC loadNV
theorem impl_decimal_small (n : Nat) (hn : n < 100) : Pure Tryd.prog 53 [.i n] (txtV (Lib.decDigits n)) := by
  refine fun_impl_decimal (by simp) ?_
  simp -implicitDefEqProofs only [go_sem, evR, ints, rows, rat, rats, c_impl_decimal]
  refine CallW.pure (strconv_FormatInt_small n hn) [] rfl Tryd.call73 ?_ (by first | trivial | simp [T.noSh, T.noShL, rat]) rfl ?_
  · simp -implicitDefEqProofs only [agR, Nat.reduceLeDiff, Nat.reduceSub, vaR, go_sem, ints, rows, rat, rats, ratsO, rtR, intsO, rowsO]
  simp -implicitDefEqProofs only [go_sem, evR, ints, rows, rat, rats]
end
end Go.Ab

/- The library's builder of texts: contracts over a builder as a root. -/
set_option linter.unusedSimpArgs false
set_option linter.unusedVariables false
namespace Go.Ab
open Go.Proofs Go.Lib
theorem buf_own {w : World} {e : TypeId} {bs : List Value} {v : Value} {g : List Nat} (h : BufOK w e bs v g) : w.ownsRow 0 e 1 v bs.length bs ∧ g = v.ownBlock.toList := by
  rcases h with ⟨rfl, rfl, rfl⟩ | ⟨k, cap, cur, rfl, rfl, h3, h4, h5, h6, h7, h8⟩
  · exact ⟨⟨by simp, .inl ⟨rfl, rfl⟩⟩, rfl⟩
  · exact ⟨⟨by simp, .inr ⟨k, cap, cur, rfl, Nat.zero_le _, h3, h4, h5, by omega, by rw [Nat.mul_one]; exact h7⟩⟩, rfl⟩
theorem own_buf {w : World} {e : TypeId} {bs : List Value} {v : Value} {n : Nat} (h : w.ownsRow 0 e 1 v n bs) (hbs : bs = [] → v = .slice none 0 0) : BufOK w e bs v v.ownBlock.toList := by
  obtain ⟨h0, h⟩ := h
  have hn : bs.length = n := by omega
  subst hn
  rcases h with ⟨rfl, h1⟩ | ⟨k, cap, cur, rfl, _, h3, h4, h5, h6, h7⟩
  · exact .inl ⟨rfl, List.eq_nil_of_length_eq_zero h1, rfl⟩
  · exact .inr ⟨k, cap, cur, rfl, rfl, h3, h4, h5, by omega, by rw [Nat.mul_one] at h7; exact h7, fun h => by cases hbs h⟩
theorem bld_inv {w : World} {O : Nat → Prop} {ty e : TypeId} {bs : List Value} {x : Value} {F : List Nat} (h : Ow w O (.bld ty e bs) x F) : ∃ b p v, x = .pointer (some ⟨b, 0, none⟩) ∧ (p = .pointer none ∨ p = .pointer (some ⟨b, 0, none⟩)) ∧ w.heap[b]? = some (.cells #[p, v] ty (0, 0)) ∧ BufOK w e bs v v.ownBlock.toList ∧ F = b :: v.ownBlock.toList := by
  cases h with
  | rd h => cases h
  | bld ty e bs b p v g hp hb hv => have := (buf_own hv).2; subst this; exact ⟨b, p, v, rfl, hp, hb, hv, rfl⟩
theorem strings_WriteString (bs : List Value) (s : ByteArray) (hlen : bs.length + s.size ≤ 140737488355328) : Fun Tryd.prog 51 [.bld 84 5 bs] [.own 1000000000, .t (.v (.string s))] fun o r => o = [.bld 84 5 (bs ++ strCells s)] ∧ r = .tup [.i s.size, .v .nilIface] := by
  intro X w vals hs fp hm hl hi
  obtain ⟨x, hx, how, _⟩ := hm.root 0 _ rfl
  obtain ⟨b, p, v, rfl, hp, hb, hv, hF⟩ := bld_inv how
  have hx : hs 1000000000 = some (.pointer (some ⟨b, 0, none⟩)) := hx
  have hF : fp 1000000000 = b :: v.ownBlock.toList := hF
  have hnd := hm.nodup 1000000000
  rw [hF, List.nodup_cons] at hnd
  have hne : v.ownBlock ≠ some b := fun h => hnd.1 (by rw [h]; simp)
  match vals, hl with
  | [a0, a1], _ =>
    have h0 := (hi 0 (by simp)).own_inv
    have h1 := (hi 1 (by simp)).v_inv
    simp only [List.getD_cons_zero, List.getD_cons_succ] at h0 h1
    rw [hx] at h0; cases h0; subst h1
    refine (bld_write b p v bs s w hp hb (buf_own hv).1 hne hlen).mono ?_
    rintro e w' ⟨rfl, v', hb', hown', ho, ht, hpp, hsz, hfr, hblk, hnil⟩
    have hlt : b < w.heap.size := (Array.getElem?_eq_some_iff.1 hb).1
    have hne' : v'.ownBlock ≠ some b := by
      rcases hblk with h | h
      · rw [h]; exact hne
      · rw [h]; intro e; cases e; omega
    have hbuf := own_buf hown' fun h => by
      obtain ⟨h1, h2⟩ := List.append_eq_nil_iff.1 h
      refine hnil ⟨?_, by have := congrArg List.length h2; simpa [strCells_length] using this⟩
      rcases hv with ⟨h3, _⟩ | ⟨_, _, _, _, _, _, _, _, _, _, h3⟩
      · exact h3
      · exact absurd h1 h3
    refine ⟨_, _, _, [], fun r => if r = 1000000000 then b :: v'.ownBlock.toList else [], rfl, ⟨rfl, rfl⟩, rfl, ?_⟩
    refine ⟨fun i t h => ?_, fun r hr => ?_, ?_, fun r r' c h h' => ?_, fun r => ?_, by simp, by simp, fun r c h => ?_, by simp, ho, ht, hpp, hsz, fun c hc hj => ?_⟩
    · match i, h with
      | 0, h =>
        cases h
        exact ⟨_, hx, .bld 84 5 _ b _ v' _ (.inr rfl) hb' hbuf, .inl rfl⟩
    · simp only [List.length_cons, List.length_nil] at hr
      exact if_neg (by omega)
    · refine .rd (.tup (l := [.i s.size, .v .nilIface]) (vs := [.int .i64 s.size, .nilIface]) rfl fun i h => ?_)
      match i, h with
      | 0, _ => exact .v _
      | 1, _ => exact .v _
    · try simp only at h h'
      split at h
      · split at h'
        · omega
        · simp at h'
      · simp at h
    · try simp only
      split
      · refine List.nodup_cons.2 ⟨fun h => ?_, ?_⟩
        · simp only [Option.mem_toList] at h; exact hne' h
        · cases v'.ownBlock <;> simp
      · simp
    · try simp only at h
      split at h
      · rcases List.mem_cons.1 h with rfl | h
        · exact .inl ⟨1000000000, by rw [hF]; simp⟩
        · simp only [Option.mem_toList, Option.mem_def] at h
          rcases hblk with h2 | h2
          · exact .inl ⟨1000000000, by rw [hF, ← h2, h]; simp⟩
          · rw [h2] at h; cases h; exact .inr (Nat.le_refl _)
      · simp at h
    · have := hj 1000000000
      rw [hF] at this
      simp only [List.mem_cons, Option.mem_toList, Option.mem_def, not_or] at this
      exact hfr c hc this.1 (fun e => this.2 e.symm)
end Go.Ab

/- The library's builder of texts: String, walked; its contract. -/
set_option linter.unusedSimpArgs false
set_option linter.unusedVariables false
namespace Go.Ab
open Go.Proofs Go.Lib
set_option maxHeartbeats 2000000 in
set_option maxRecDepth 100000 in
theorem bld_string_nil (b : Nat) (p : Value) (w : World) (hbk : w.heap[b]? = some (.cells #[p, .slice none 0 0] 84 (0, 0))) :
    Calls Tryd.prog 52 #[.pointer (some ⟨b, 0, none⟩)] w fun e w' => e = .returned (.string ⟨#[]⟩) ∧ w' = w.drew := by
  have hUS : ∀ (W : World) (q : Option Addr), (Builtin.unsafeString_ #[109, 3] 9 #[.pointer q, .int .i64 0]).run Tryd.prog W = .ok (.string .empty) W := fun W q => Lib.run_unsafeString_none W _ _ _ q
  have c1 : w.drew.cell? ⟨b, 1, none⟩ = some (.slice none 0 0) := by
    have : w.drew.heap[b]? = some (.cells #[p, .slice none 0 0] 84 (0, 0)) := hbk
    rw [Lib.cell_of_heap this]; rfl
  have hSD : (Builtin.unsafeSliceData_ #[71] 109 #[.slice none 0 0]).run Tryd.prog w.drew = .ok (.pointer none) w.drew := rfl
  have mixed := Tryd.lays169.mixed
  go_enter Tryd.func52, Tryd.ntmps52
  go_wp2
  go_region_o
  all_goals (go_wp2; go_ret; exact ⟨rfl, rfl⟩)
set_option maxHeartbeats 2000000 in
set_option maxRecDepth 100000 in
theorem bld_string_some (b g cap : Nat) (p : Value) (cur : Array Value) (l : List UInt8) (w : World) (h0 : l ≠ []) (hbk : w.heap[b]? = some (.cells #[p, .slice (some ⟨g, 0, none⟩) l.length cap] 84 (0, 0)))
    (hown : w.ownsRow 0 5 1 (.slice (some ⟨g, 0, none⟩) l.length cap) l.length (Lib.byteCells l)) (hg : w.heap[g]? = some (.cells cur 5 (0, 0))) (hnc : l.length ≤ cap) (hcm : cap ≤ maxLen) (hcs : cur.size = cap) :
    Calls Tryd.prog 52 #[.pointer (some ⟨b, 0, none⟩)] w fun e w' => e = .returned (.string ⟨l.toArray⟩) ∧ w' = w.drew.freeze ⟨g, 0, none⟩ l.length := by
  have c1 : w.drew.cell? ⟨b, 1, none⟩ = some (.slice (some ⟨g, 0, none⟩) l.length cap) := by
    have : w.drew.heap[b]? = some (.cells #[p, .slice (some ⟨g, 0, none⟩) l.length cap] 84 (0, 0)) := hbk
    rw [Lib.cell_of_heap this]; rfl
  have hl0 : l.length ≠ 0 := by simpa using h0
  have hSD : (Builtin.unsafeSliceData_ #[71] 109 #[.slice (some ⟨g, 0, none⟩) l.length cap]).run Tryd.prog w.drew = .ok (.pointer (some ⟨g, 0, none⟩)) w.drew :=
    Lib.run_unsafeSliceData_row _ _ _ _ _ _ (by omega)
  have hUS : (Builtin.unsafeString_ #[109, 3] 9 #[.pointer (some ⟨g, 0, none⟩), .int .i64 l.length]).run Tryd.prog w.drew = .ok (.string ⟨l.toArray⟩) (w.drew.freeze ⟨g, 0, none⟩ l.length) := by
    refine Lib.run_unsafeString_row w.drew 109 3 9 5 Tryd.underlying109 Tryd.Builder_Extra_169.cellsByte g cur.size (by have hg' : w.drew.heap[g]? = some (.cells cur 5 (0, 0)) := hg; simp [World.shape?, hg']) l h0 (by omega) (by unfold maxLen at hcm; omega) ?_
    intro j x hx
    have := hown.cells (g := g) rfl j (.int .u8 x.toNat) (by simp [Lib.byteCells, hx])
    exact this
  have mixed := Tryd.lays169.mixed
  go_enter Tryd.func52, Tryd.ntmps52
  go_wp2
  go_region_o
  all_goals (go_wp2; go_ret; exact ⟨rfl, rfl⟩)
end Go.Ab

/- The library's builder of texts: the contract of String. -/
set_option linter.unusedSimpArgs false
set_option linter.unusedVariables false
namespace Go.Ab
open Go.Proofs Go.Lib
theorem strings_String (l : List UInt8) : Fun Tryd.prog 52 [.bld 84 5 (Lib.byteCells l)] [.own 1000000000] fun o r => o = [.any] ∧ r = txtV l := by
  intro X w vals hs fp hm hl hi
  obtain ⟨x, hx, how, _⟩ := hm.root 0 _ rfl
  obtain ⟨b, p, v, rfl, hp, hb, hv, hF⟩ := bld_inv how
  have hx : hs 1000000000 = some (.pointer (some ⟨b, 0, none⟩)) := hx
  have hF : fp 1000000000 = b :: v.ownBlock.toList := hF
  have out : ∀ w' : World, w'.os = w.os → w'.tape = w.tape → w'.output = w.output → w'.heap.size = w.heap.size → (∀ c, some c ≠ v.ownBlock → w'.heap[c]? = w.heap[c]?) →
      Out X w hs fp (.string (txt l)) (txtV l) [.any] [] (fun _ => []) w' := by
    intro w' h1 h2 h3 h4 h5
    refine ⟨fun i t h => ?_, fun r hr => rfl, .rd (.v _), by simp, by simp, by simp, by simp, by simp, by simp, h1, h2, h3, by omega, fun c hc hj => ?_⟩
    · match i, h with
      | 0, h =>
        cases h
        exact ⟨_, hx, .rd (.any _), .inr rfl⟩
    · refine h5 c fun e => hj 1000000000 ?_
      rw [hF, ← e]; simp
  match vals, hl with
  | [a0], _ =>
    have h0 := (hi 0 (by simp)).own_inv
    simp only [List.getD_cons_zero] at h0
    rw [hx] at h0; cases h0
    by_cases hl0 : l = []
    · subst hl0
      rcases hv with ⟨rfl, _⟩ | ⟨_, _, _, _, _, _, _, _, _, _, h⟩
      · refine (bld_string_nil b p w hb).mono ?_
        rintro e w' ⟨rfl, rfl⟩
        exact ⟨_, _, _, [], fun _ => [], rfl, ⟨rfl, rfl⟩, rfl, out _ rfl rfl rfl rfl fun _ _ => rfl⟩
      · exact absurd rfl h
    · rcases hv with ⟨_, h, _⟩ | ⟨k, cap, cur, rfl, _, h3, h4, h5, h6, h7, h8⟩
      · exact absurd (by simpa [Lib.byteCells] using h) hl0
      · have hlen : (Lib.byteCells l).length = l.length := Lib.byteCells_length l
        rw [hlen] at hb h4 h7
        have hlen0 : l.length ≠ 0 := by simpa using hl0
        refine (bld_string_some b k cap p cur l w hl0 hb ⟨by rw [hlen]; simp, .inr ⟨k, cap, cur, rfl, Nat.zero_le _, h3, h4, h5, by omega, by rw [Nat.mul_one]; exact h7⟩⟩ h3 h4 h5 h6).mono ?_
        rintro e w' ⟨rfl, rfl⟩
        refine ⟨_, _, _, [], fun _ => [], rfl, ⟨rfl, rfl⟩, rfl, out _ ?_ ?_ ?_ ?_ fun c hc => ?_⟩
        · simp only [World.freeze, hlen0, if_false]; rfl
        · simp only [World.freeze, hlen0, if_false]; rfl
        · simp only [World.freeze, hlen0, if_false]; rfl
        · simp only [World.freeze, hlen0, if_false, Array.size_modify]; rfl
        · simp only [World.freeze, hlen0, if_false, Array.getElem?_modify]
          rw [if_neg (fun e => hc (by rw [← e]; simp [Value.ownBlock, hlen]))]
          rfl
end Go.Ab

/- The library's texts: joined numbers (the program). -/
set_option linter.unusedSimpArgs false
set_option linter.unusedVariables false
namespace Go.Ab
open Go.Proofs
theorem Same0.below {w w' : World} (h : Go.RowKit.Below w.heap.size w w') : Same0 w w' := ⟨h.os, h.tape, h.output, h.size, fun b hb => h.block b hb⟩
def txts (xs : List (List UInt8)) : T := .sh 1 (xs.map txtV)
theorem strings_Join_ok (xs : List (List UInt8)) (sep : List UInt8) (h0 : xs ≠ []) (hx : xs.length ≤ 1000000) (hj : (Lib.join xs sep).length ≤ 140737488355328) : Pure Tryd.prog 54 [txts xs, txtV sep] (txtV (Lib.join xs sep)) := by
  intro X w vals hs fp hm hl hi
  have hpos := List.length_pos_iff.2 h0
  match vals, hl with
  | [x, y], _ =>
    have e0 := hi 0 (by simp)
    have e1 : y = .string (txt sep) := (hi 1 (by simp)).v_inv
    simp only [List.getD_cons_zero] at e0
    subst e1
    have e0 : Is w (Ob X fp) hs (.t (txts xs)) x := e0
    cases e0 with
    | t hr =>
      unfold txts at hr
      generalize hL : xs.map txtV = L at hr
      have hLl : L.length = xs.length := by rw [← hL, List.length_map]
      cases hr with
      | shNil => simp at hLl; omega
      | shZ => simp at hLl; omega
      | sh _ _ b off len cap cs e fz hO hb hsz hlen hc hcs =>
        have hlen : xs.length = len := by omega
        have key := Tryd.strings_Join b off cap (xs.map txt) (txt sep) w (fun j z hz => ?_) (Array.getElem?_eq_some_iff.1 hb).1 (by rw [List.length_map]; omega) (by rw [List.length_map]; omega) ?_
        · rw [List.length_map, hlen] at key
          have hjn : Lib.join ((xs.map txt).map (·.data.toList)) (txt sep).data.toList = Lib.join xs sep := by
            rw [List.map_map]
            have : xs.map ((fun (a : ByteArray) => a.data.toList) ∘ txt) = xs.map id := List.map_congr_left fun a _ => by simp [txt]
            rw [this, List.map_id]; simp [txt]
          rw [hjn] at key
          refine key.mono ?_
          rintro e w' ⟨rfl, hB⟩
          exact ⟨_, _, [], [], fp, rfl, ⟨rfl, rfl⟩, rfl, out_plain hm (Same0.below hB)⟩
        · rw [List.getElem?_map] at hz
          obtain ⟨a, ha, rfl⟩ := Option.map_eq_some_iff.1 hz
          obtain ⟨hjl, rfl⟩ := List.getElem?_eq_some_iff.1 ha
          have h1 := hcs j (by omega)
          have hLj : L[j]'(by omega) = txtV xs[j] := by
            have : L[j]'(by omega) = (xs.map txtV)[j]'(by simpa using hjl) := by congr 1; exact hL.symm
            rw [this, List.getElem_map]
          rw [hLj] at h1
          rw [cells_at hb (by omega)]
          generalize cs.getD (off + j) undef = u at h1
          unfold txtV at h1
          cases h1; rfl
        · have hjn : Lib.join ((xs.map txt).map (·.data.toList)) (txt sep).data.toList = Lib.join xs sep := by
            rw [List.map_map]
            have : xs.map ((fun (a : ByteArray) => a.data.toList) ∘ txt) = xs.map id := List.map_congr_left fun a _ => by simp [txt]
            rw [this, List.map_id]; simp [txt]
          rw [hjn]; exact hj
end Go.Ab

/- Joined numbers (the program). -/
set_option linter.unusedSimpArgs false
set_option linter.unusedVariables false
namespace Go.Ab
open Go.Proofs
def fillT (l : List Int) (i : Nat) : List T := (l.take i).map (fun x => txtV (Lib.itoa x)) ++ List.replicate (l.length - i) (txtV [])
theorem fillT_len {l : List Int} {i : Nat} (h : i ≤ l.length) : (fillT l i).length = l.length := by simp [fillT]; omega
theorem fillT_set {l : List Int} {i : Nat} {x : Int} (h : l[i]? = some x) : (fillT l i).set i (txtV (Lib.itoa x)) = fillT l (i + 1) := by
  have hi : i < l.length := (List.getElem?_eq_some_iff.1 h).1
  have hl : ((l.take i).map (fun x => txtV (Lib.itoa x))).length = i := by rw [List.length_map, List.length_take]; omega
  rw [fillT, List.set_append_right _ _ (by omega), hl, Nat.sub_self, show l.length - i = (l.length - (i + 1)) + 1 by omega, List.replicate_succ, List.set_cons_zero, fillT, take_snoc h, List.map_append]
  simp
theorem fillT_all (l : List Int) : fillT l l.length = (l.map Lib.itoa).map txtV := by
  rw [fillT, List.take_length, Nat.sub_self, List.replicate_zero, List.append_nil, List.map_map]; rfl
theorem numT_txts (sep : List UInt8) (l : List Int) : Lib.join (l.map Lib.itoa) sep = numT sep l := rfl
theorem toShL_txt : ∀ l : List (List UInt8), T.toShL (l.map txtV) = l.map txtV
  | [] => rfl
  | a :: l => by rw [List.map_cons, T.toShL, toShL_txt l]; rfl
section
attribute [-go_sem] load1C load1V fldC lenC idxC loadNV
theorem impl_joinNumbers_small (l : List Int) (s : UInt8) (h0 : l ≠ []) (hl : l.length ≤ 1000) (h : ∀ x ∈ l, 0 ≤ x ∧ x < 100) : Pure Tryd.prog 26 [ints l, txtV [s]] (txtV (numT [s] l)) := by
  have hjl := numT_len (s := s) l fun x hx => by have := h x hx; omega
  have hJ := strings_Join_ok (l.map Lib.itoa) [s] (by simpa using h0) (by rw [List.length_map]; omega) (by rw [numT_txts]; omega)
  rw [numT_txts] at hJ
  unfold txts at hJ
  refine fun_impl_joinNumbers (by simp) ?_
  simp -implicitDefEqProofs only [go_sem, evR, ints, rows, rat, rats, c_impl_joinNumbers, txtV]
  refine ⟨by omega, by omega, ?_⟩
  refine SemC.loopR (σ := Nat) (fun i => St.of [(1, .t (txtV [s])), (5, .own 95), (11, .t (ints l)), (12, .t (.i l.length)), (13, .t (.i i))] [(95, .arr 1 (fillT l i))]) (fun i => i ≤ l.length) (fun i => l.length - i) 0 (Weak.of _ _ [some 10] (by simp) (by simp) ?_ ⟨⟨_, rfl, ?_⟩, rfl, trivial⟩) (by omega) fun i hi R hn hr he => ?_
  · simp -implicitDefEqProofs only [ints, rows, Nat.reduceBEq, wkR, Nat.reduceEqDiff, ↓reduceIte, wrR, txtV]
  · rw [fillT, List.take_zero, List.map_nil, List.nil_append, Nat.sub_zero]; exact .refl _
  · have hfl := fillT_len hi
    rcases Nat.lt_or_ge i l.length with h9 | h9
    · obtain ⟨x, hx⟩ : ∃ x, l[i]? = some x := ⟨_, List.getElem?_eq_getElem h9⟩
      obtain ⟨x0, x1⟩ := h x (List.mem_of_getElem? hx)
      have hd := impl_decimal_small x.toNat (by omega)
      rw [show ((x.toNat : Nat) : Int) = x by omega, ← itoa_pos x0] at hd
      have hset := fillT_set hx
      simp -implicitDefEqProofs only [go_sem, evR, ints, rows, rat, rats, hx, hfl, decide_eq_true (show (i : Int) < (l.length : Int) by omega)]
      refine ⟨by omega, by omega, by omega, ?_⟩
      refine CallW.pure hd [] rfl Tryd.call53 ?_ (by first | trivial | simp [T.noSh, T.noShL, rat]) rfl ?_
      · simp -implicitDefEqProofs only [agR, Nat.reduceLeDiff, Nat.reduceSub, vaR, go_sem, ints, rows, rat, rats, ratsO, rtR, intsO, rowsO]
      simp -implicitDefEqProofs only [go_sem, evR, ints, rows, rat, rats, hfl, txtV]
      refine ⟨by omega, by omega, by omega, ?_⟩
      refine hn _ (i + 1) (Weak.of _ _ [some 95] (by simp) (by simp) ?_ ⟨⟨_, rfl, by rw [← hset]; exact .refl _⟩, rfl, trivial⟩) (by omega) (by omega)
      simp -implicitDefEqProofs only [ints, rows, Nat.reduceBEq, wkR, Nat.reduceEqDiff, ↓reduceIte, wrR, next64 h9 (by omega), txtV]
    · simp -implicitDefEqProofs only [go_sem, evR, ints, rows, rat, rats, decide_eq_false (show ¬ (i : Int) < (l.length : Int) by omega)]
      refine he _ _ ?_
      have e : i = l.length := by omega
      subst e
      rw [fillT_all]
      simp -implicitDefEqProofs only [go_sem, evR, ints, rows, rat, rats]
      have hty : txtV [s] = T.v (Value.string (txt [s])) := rfl
      have hsh : (T.arr 1 ((l.map Lib.itoa).map txtV)).toSh = .sh 1 ((l.map Lib.itoa).map txtV) := by rw [T.toSh, toShL_txt]
      refine CallW.pure hJ [95] rfl Tryd.call54 ?_ trivial rfl ?_
      · simp -implicitDefEqProofs only [agR, Nat.reduceLeDiff, Nat.reduceSub, vaR, go_sem, ints, rows, rat, rats, ratsO, rtR, intsO, rowsO, hsh, hty]
      · simp -implicitDefEqProofs only [go_sem, evR, ints, rows, rat, rats, txtV]
end
end Go.Ab

/- Joined numbers with the table of powers known (the program). -/
set_option linter.unusedSimpArgs false
set_option linter.unusedVariables false
namespace Go.Ab
open Go.Proofs
section
attribute [-go_sem] load1C load1V fldC lenC idxC loadNV
theorem impl_decimal_G (n : Int) (h0 : -9223372036854775808 ≤ n) (h1 : n ≤ 9223372036854775807) : FunG Tryd.prog powG 53 [] [.t (.i n)] fun o r => o = [] ∧ r = txtV (Lib.itoa n) := by
  refine Fun.ofG powG (H := ⟨[], []⟩) (rv := [.tmp 2]) (c := c_impl_decimal) Tryd.func53 rfl rfl rfl (by kernel_rfl) (by simp) (by decide) ?_
  simp -implicitDefEqProofs only [go_sem, evR, ints, rows, rat, rats, c_impl_decimal]
  refine CallW.pureG (args := [.i n, .i 10]) (strconv_FormatInt_G n h0 h1) rfl [] rfl Tryd.call73 ?_ trivial rfl ?_
  · simp -implicitDefEqProofs only [agR, Nat.reduceLeDiff, Nat.reduceSub, vaR, go_sem, ints, rows, rat, rats, ratsO, rtR, intsO, rowsO]
  simp -implicitDefEqProofs only [go_sem, evR, ints, rows, rat, rats]
theorem impl_joinNumbers_G (l : List Int) (s : UInt8) (h0 : l ≠ []) (hl : l.length ≤ 1000) (h : ∀ x ∈ l, -9223372036854775807 ≤ x ∧ x ≤ 9223372036854775807) : FunG Tryd.prog powG 26 [] [.t (ints l), .t (txtV [s])] fun o r => o = [] ∧ r = txtV (numT [s] l) := by
  have hjl := numT_len (s := s) l h
  have hJ := strings_Join_ok (l.map Lib.itoa) [s] (by simpa using h0) (by rw [List.length_map]; omega) (by rw [numT_txts]; omega)
  rw [numT_txts] at hJ
  unfold txts at hJ
  refine Fun.ofG powG (H := ⟨[], []⟩) (rv := [.tmp 4]) (c := c_impl_joinNumbers) Tryd.func26 rfl rfl rfl (by kernel_rfl) (by simp) (by decide) ?_
  simp -implicitDefEqProofs only [go_sem, evR, ints, rows, rat, rats, c_impl_joinNumbers, txtV]
  refine ⟨by omega, by omega, ?_⟩
  refine SemC.loopR (σ := Nat) (fun i => St.of [(1, .t (txtV [s])), (5, .own 95), (11, .t (ints l)), (12, .t (.i l.length)), (13, .t (.i i)), (1000000, .t powG)] [(95, .arr 1 (fillT l i))]) (fun i => i ≤ l.length) (fun i => l.length - i) 0 (Weak.of _ _ [some 10] (by simp) (by simp) ?_ ⟨⟨_, rfl, ?_⟩, rfl, trivial⟩) (by omega) fun i hi R hn hr he => ?_
  · simp -implicitDefEqProofs only [ints, rows, Nat.reduceBEq, wkR, Nat.reduceEqDiff, ↓reduceIte, wrR, txtV]
  · rw [fillT, List.take_zero, List.map_nil, List.nil_append, Nat.sub_zero]; exact .refl _
  · have hfl := fillT_len hi
    rcases Nat.lt_or_ge i l.length with h9 | h9
    · obtain ⟨x, hx⟩ : ∃ x, l[i]? = some x := ⟨_, List.getElem?_eq_getElem h9⟩
      obtain ⟨x0, x1⟩ := h x (List.mem_of_getElem? hx)
      have hd := impl_decimal_G x (by omega) x1
      have hset := fillT_set hx
      simp -implicitDefEqProofs only [go_sem, evR, ints, rows, rat, rats, hx, hfl, decide_eq_true (show (i : Int) < (l.length : Int) by omega)]
      refine ⟨by omega, by omega, by omega, ?_⟩
      refine CallW.pureG (args := [.i x]) hd rfl [] rfl Tryd.call53 ?_ trivial rfl ?_
      · simp -implicitDefEqProofs only [agR, Nat.reduceLeDiff, Nat.reduceSub, vaR, go_sem, ints, rows, rat, rats, ratsO, rtR, intsO, rowsO]
      simp -implicitDefEqProofs only [go_sem, evR, ints, rows, rat, rats, hfl, txtV]
      refine ⟨by omega, by omega, by omega, ?_⟩
      refine hn _ (i + 1) (Weak.of _ _ [some 95] (by simp) (by simp) ?_ ⟨⟨_, rfl, by rw [← hset]; exact .refl _⟩, rfl, trivial⟩) (by omega) (by omega)
      simp -implicitDefEqProofs only [ints, rows, Nat.reduceBEq, wkR, Nat.reduceEqDiff, ↓reduceIte, wrR, next64 h9 (by omega), txtV]
    · simp -implicitDefEqProofs only [go_sem, evR, ints, rows, rat, rats, decide_eq_false (show ¬ (i : Int) < (l.length : Int) by omega)]
      refine he _ _ ?_
      have e : i = l.length := by omega
      subst e
      rw [fillT_all]
      simp -implicitDefEqProofs only [go_sem, evR, ints, rows, rat, rats]
      have hty : txtV [s] = T.v (Value.string (txt [s])) := rfl
      have hsh : (T.arr 1 ((l.map Lib.itoa).map txtV)).toSh = .sh 1 ((l.map Lib.itoa).map txtV) := by rw [T.toSh, toShL_txt]
      refine CallW.pure hJ [95] rfl Tryd.call54 ?_ trivial rfl ?_
      · simp -implicitDefEqProofs only [agR, Nat.reduceLeDiff, Nat.reduceSub, vaR, go_sem, ints, rows, rat, rats, ratsO, rtR, intsO, rowsO, hsh, hty]
      · simp -implicitDefEqProofs only [go_sem, evR, ints, rows, rat, rats, txtV]
end
end Go.Ab

/- Texts of strategies (the reference). -/
set_option linter.unusedSimpArgs false
set_option linter.unusedVariables false
namespace Go.Ab
open Go.Proofs
def lineT (x p : List Int) : List UInt8 := numT [47] x ++ (58 :: (numT [44] p ++ [10]))
def stTo (g : Gm) (s : Int × List (List Int)) (i : Nat) : List UInt8 := ((List.range i).map fun e => lineT ((sets g s.1).getD e []) (s.2.getD e [])).flatten
def stTxt (g : Gm) (s : Int × List (List Int)) : List UInt8 := stTo g s (sets g s.1).length
theorem stTo_succ (g : Gm) (s : Int × List (List Int)) (i : Nat) : stTo g s (i + 1) = stTo g s i ++ lineT ((sets g s.1).getD i []) (s.2.getD i []) := by
  simp [stTo, List.range_succ]
theorem sets_at {g : Gm} {pl : Int} {e : Nat} {x : List Int} (h : (sets g pl)[e]? = some x) : ∃ i c : Nat, x = [(i : Int), (c : Int)] ∧ i < g.nd.length ∧ c < g.w.length := by
  obtain ⟨n, hn, c, hc, rfl⟩ := setsOf_mem (List.mem_of_getElem? h)
  unfold idxs at hn
  obtain ⟨i, hi, rfl⟩ := List.mem_map.1 hn
  have := List.mem_range.1 (List.mem_filter.1 hi).1
  exact ⟨i, c, rfl, this, hc⟩
theorem strat_at {g : Gm} {s : Int × List (List Int)} (h : strB g s = true) : s.2.length = (sets g s.1).length ∧ ∀ p ∈ s.2, p.length ≤ 4 ∧ ∀ x ∈ p, 0 ≤ x ∧ x ≤ 60 := by
  obtain ⟨h1, h2, h3⟩ := strB_parts h
  simp only [isStratB, Bool.and_eq_true, decide_eq_true_eq, List.all_eq_true, List.mem_range] at h3
  refine ⟨h3.1, fun p hp => ?_⟩
  obtain ⟨e, he, rfl⟩ := List.mem_iff_getElem.1 hp
  have h4 := h3.2 e (by omega)
  have hg : s.2.getD e [] = s.2[e] := by rw [List.getD_eq_getElem?_getD, List.getElem?_eq_getElem he]; rfl
  rw [hg] at h4
  obtain ⟨i, c, hi, hc, hpp, _, hsz⟩ := sets_find (g := g) (pl := s.1) (e := e) (by omega)
  obtain ⟨p1, p2, p3, p4, p5⟩ := isGameB_parts h1
  obtain ⟨t1, t2, t3, t4⟩ := isTreeB_spec p1
  have hch : (g.nd.getD i nd0).ch.length ≤ 4 := by
    have hx : g.nd[i]? = some (g.nd.getD i nd0) := by rw [List.getD_eq_getElem?_getD, List.getElem?_eq_getElem hi]; rfl
    exact (ndOK_fields (t2 _ _ hx)).2.2.2.2.2
  simp only [partOK, Bool.and_eq_true, decide_eq_true_eq, List.all_eq_true] at h4
  exact ⟨by rw [h4.1.1, hsz]; exact hch, h4.1.2⟩
theorem line_len {i c : Nat} {p : List Int} (hi : i ≤ 60) (hc : c ≤ 60) (hp : p.length ≤ 4) (hx : ∀ x ∈ p, 0 ≤ x ∧ x ≤ 60) : (lineT [(i : Int), (c : Int)] p).length ≤ 200 := by
  have h1 := numT_len (s := 47) [(i : Int), (c : Int)] (fun x hx => by simp at hx; omega)
  have h2 := numT_len (s := 44) p (fun x h => by have := hx x h; omega)
  rw [lineT, List.length_append, List.length_cons, List.length_append]
  simp only [List.length_cons, List.length_nil] at h1 ⊢
  omega
theorem stTo_len {g : Gm} {s : Int × List (List Int)} (h : strB g s = true) : ∀ i, i ≤ (sets g s.1).length → (stTo g s i).length ≤ 200 * i
  | 0, _ => by simp [stTo]
  | i + 1, hi => by
    have ih := stTo_len h i (by omega)
    obtain ⟨hl, hp⟩ := strat_at h
    obtain ⟨p1, p2, p3, p4, p5⟩ := isGameB_parts (strB_parts h).1
    obtain ⟨t1, t2, t3, t4⟩ := isTreeB_spec p1
    obtain ⟨x, hx⟩ : ∃ x, (sets g s.1)[i]? = some x := ⟨_, List.getElem?_eq_getElem (by omega)⟩
    obtain ⟨a, c, rfl, ha, hc⟩ := sets_at hx
    obtain ⟨q, hq⟩ : ∃ q, s.2[i]? = some q := ⟨_, List.getElem?_eq_getElem (by omega)⟩
    obtain ⟨q1, q2⟩ := hp q (List.mem_of_getElem? hq)
    rw [stTo_succ, List.length_append, show (sets g s.1).getD i [] = [(a : Int), (c : Int)] by rw [List.getD_eq_getElem?_getD, hx]; rfl, show s.2.getD i [] = q by rw [List.getD_eq_getElem?_getD, hq]; rfl]
    have := line_len (i := a) (c := c) (p := q) (by omega) (by omega) q1 q2
    omega
def stRes (g : Gm) (s : Int × List (List Int)) : List UInt8 × Int := if strB g s = true then (stTxt g s, 0) else ([], 1)
theorem line_cat (a : List UInt8) (x y : Int) (p : List UInt8) : (((((a ++ Lib.itoa x) ++ [47]) ++ Lib.itoa y) ++ [58]) ++ p) ++ [10] = a ++ (numT [47] [x, y] ++ (58 :: (p ++ [10]))) := by
  have e : numT [47] [x, y] = Lib.itoa x ++ (47 :: Lib.itoa y) := by
    have := numT_snoc (sep := [47]) (l := [x]) (by simp) y
    rw [numT_one] at this; exact this
  rw [e]; simp
section
attribute [-go_sem] load1C load1V fldC lenC idxC loadNV
set_option maxRecDepth 20000 in
theorem spec_StrategyText_ok (g : Gm) (s : Int × List (List Int)) (hg : gameL g) (hs : rowsL s.2) : Pure Tryd.prog 16 [gameT g, stratT s] (.tup [txtV (stRes g s).1, .i (stRes g s).2]) := by
  have hst := spec_IsStrategy_ok g s hg hs
  simp only [gameT, stratT, nodes, rows] at hst
  refine fun_spec_StrategyText (by simp) ?_
  simp -implicitDefEqProofs only [go_sem, evR, ints, rows, rat, rats, c_spec_StrategyText, gameT, stratT, nodes]
  unfold stRes
  cases hb : strB g s with
  | false =>
    rw [hb] at hst
    refine CallW.pure hst [] rfl Tryd.call35 ?_ (by first | trivial | simp [T.noSh, T.noShL, rat]) rfl ?_
    · simp -implicitDefEqProofs only [agR, Nat.reduceLeDiff, Nat.reduceSub, vaR, go_sem, ints, rows, rat, rats, ratsO, rtR, intsO, rowsO]
    simp -implicitDefEqProofs only [go_sem, evR, ints, rows, rat, rats, show (!false) = true from rfl]
    rfl
  | true =>
    rw [hb] at hst
    refine CallW.pure hst [] rfl Tryd.call35 ?_ (by first | trivial | simp [T.noSh, T.noShL, rat]) rfl ?_
    · simp -implicitDefEqProofs only [agR, Nat.reduceLeDiff, Nat.reduceSub, vaR, go_sem, ints, rows, rat, rats, ratsO, rtR, intsO, rowsO]
    simp -implicitDefEqProofs only [go_sem, evR, ints, rows, rat, rats, show (!true) = false from rfl]
    obtain ⟨hl, hp⟩ := strat_at hb
    have hlen := stTo_len hb
    obtain ⟨p1, p2, p3, p4, p5⟩ := isGameB_parts (strB_parts hb).1
    obtain ⟨t1, t2, t3, t4⟩ := isTreeB_spec p1
    have hsl := sets_len g s.1 t1.2 p2.2
    have hsr := l21Sets_t g s.1 t1.2 p2.2
    refine CallW.res hsr [] rfl Tryd.call36 ?_ (.inl rfl) ?_
    · simp -implicitDefEqProofs only [agR, Nat.reduceLeDiff, Nat.reduceSub, vaR, go_sem, ints, rows, rat, rats, ratsO, rtR, intsO, rowsO]
    simp -implicitDefEqProofs only [clR, Nat.reduceLeDiff, go_sem, evR, rat, rowsO]
    refine SemC.loopR (σ := Nat) (fun i => St.of [(3, .own 93), (6, .t (rows (sets g s.1))), (7, .t (txtV (stTo g s i))), (8, .t (.i i))] [(93, .box [.i s.1, rows s.2])]) (fun i => i ≤ (sets g s.1).length) (fun i => (sets g s.1).length - i) 0 (Weak.trans (Weak.share 16 rfl) (Weak.of _ _ [some 3] (by simp) (by simp) ?_ ⟨⟨_, rfl, .refl _⟩, rfl, trivial⟩)) (by omega) fun i hi R hn hr he => ?_
    · simp -implicitDefEqProofs only [ints, rows, Nat.reduceBEq, wkR, Nat.reduceEqDiff, ↓reduceIte, wrR, shareA, arr_toSh, show txtV (stTo g s 0) = T.v (Value.string ⟨#[]⟩) from rfl]
    · have hb200 := hlen i hi
      rcases Nat.lt_or_ge i (sets g s.1).length with h9 | h9
      · obtain ⟨x, hx⟩ : ∃ x, (sets g s.1)[i]? = some x := ⟨_, List.getElem?_eq_getElem h9⟩
        obtain ⟨a, c, rfl, ha, hc⟩ := sets_at hx
        obtain ⟨q, hq⟩ : ∃ q, s.2[i]? = some q := ⟨_, List.getElem?_eq_getElem (by omega)⟩
        obtain ⟨q1, q2⟩ := hp q (List.mem_of_getElem? hq)
        have hnx : stTo g s (i + 1) = stTo g s i ++ lineT [(a : Int), (c : Int)] q := by
          rw [stTo_succ, show (sets g s.1).getD i [] = [(a : Int), (c : Int)] by rw [List.getD_eq_getElem?_getD, hx]; rfl, show s.2.getD i [] = q by rw [List.getD_eq_getElem?_getD, hq]; rfl]
        have hda := spec_l01Dec_ok a (by omega)
        have hdc := spec_l01Dec_ok c (by omega)
        rw [show Lib.decDigits a = Lib.itoa (a : Int) by rw [itoa_pos (by omega), Int.toNat_natCast]] at hda
        rw [show Lib.decDigits c = Lib.itoa (c : Int) by rw [itoa_pos (by omega), Int.toNat_natCast]] at hdc
        have hli := spec_l15List_ok q (by omega) fun x hx => by have := q2 x hx; omega
        have la := itoa_len (x := (a : Int)) (by omega) (by omega)
        have lc := itoa_len (x := (c : Int)) (by omega) (by omega)
        have lq := numT_len (s := 44) q fun x hx => by have := q2 x hx; omega
        simp -implicitDefEqProofs only [go_sem, evR, ints, rows, rat, rats, txtV, hx, hq, decide_eq_true (show (i : Int) < ((sets g s.1).length : Int) by omega)]
        have k47 : (⟨#[47]⟩ : ByteArray) = txt [47] := rfl
        have k58 : (⟨#[58]⟩ : ByteArray) = txt [58] := rfl
        have k10 : (⟨#[10]⟩ : ByteArray) = txt [10] := rfl
        refine ⟨by omega, by omega, by omega, ?_⟩
        refine CallV.pure hda [] rfl Tryd.call18 (fun e R' hR => ?_) (by first | trivial | simp [T.noSh, T.noShL, rat]) (fun _ => rfl) ?_
        · simp -implicitDefEqProofs only [agR, Nat.reduceLeDiff, Nat.reduceSub, vaR, go_sem, ints, rows, rat, rats, ratsO, rtR, intsO, rowsO]
        simp -implicitDefEqProofs only [go_sem, evR, ints, rows, rat, rats, txtV, k47, txt_append, txt_size, List.length_append, hx]
        refine ⟨by (try simp); omega, by (try simp); omega, by omega, by omega, by omega, ?_⟩
        refine CallV.pure hdc [] rfl Tryd.call18 (fun e R' hR => ?_) (by first | trivial | simp [T.noSh, T.noShL, rat]) (fun _ => rfl) ?_
        · simp -implicitDefEqProofs only [agR, Nat.reduceLeDiff, Nat.reduceSub, vaR, go_sem, ints, rows, rat, rats, ratsO, rtR, intsO, rowsO]
        simp -implicitDefEqProofs only [go_sem, evR, ints, rows, rat, rats, txtV, k47, k58, txt_append, txt_size, List.length_append, hq]
        refine ⟨by (try simp); omega, by (try simp); omega, by omega, by omega, by omega, ?_⟩
        refine CallV.pure hli [] rfl Tryd.call37 (fun e R' hR => ?_) (by first | trivial | simp [T.noSh, T.noShL, rat]) (fun _ => rfl) ?_
        · simp -implicitDefEqProofs only [agR, Nat.reduceLeDiff, Nat.reduceSub, vaR, go_sem, ints, rows, rat, rats, ratsO, rtR, intsO, rowsO]
        simp -implicitDefEqProofs only [go_sem, evR, ints, rows, rat, rats, txtV, k10, txt_append, txt_size, List.length_append]
        refine ⟨by (try simp); omega, by (try simp); omega, ?_⟩
        refine hn _ (i + 1) (Weak.of _ _ [some 93] (by simp) (by simp) ?_ ⟨⟨_, rfl, .refl _⟩, rfl, trivial⟩) (by omega) (by omega)
        have hcat : (((((stTo g s i ++ Lib.itoa (a : Int)) ++ [47]) ++ Lib.itoa (c : Int)) ++ [58]) ++ numT [44] q) ++ [10] = stTo g s (i + 1) := by rw [hnx, lineT]; exact line_cat _ _ _ _
        simp -implicitDefEqProofs only [ints, rows, Nat.reduceBEq, wkR, Nat.reduceEqDiff, ↓reduceIte, wrR, next64 h9 (by omega), txtV, hcat]
      · simp -implicitDefEqProofs only [go_sem, evR, ints, rows, rat, rats, decide_eq_false (show ¬ (i : Int) < ((sets g s.1).length : Int) by omega)]
        refine he _ _ ?_
        have e : i = (sets g s.1).length := by omega
        subst e
        simp -implicitDefEqProofs only [go_sem, evR, ints, rows, rat, rats, stTxt]
end
end Go.Ab

/- Texts of claims (the reference). -/
set_option linter.unusedSimpArgs false
set_option linter.unusedVariables false
namespace Go.Ab
open Go.Proofs
def clTxt (g : Gm) (c : Cl) : List UInt8 := stTxt g c.f ++ stTxt g c.s ++ numT [32] [c.lo, c.hi, unit g] ++ [10]
def clRes (g : Gm) (c : Cl) : List UInt8 × Int := if clCode g c = 0 then (clTxt g c, 0) else ([], clCode g c)
theorem num3 (a : List UInt8) (x y z : Int) : (((((a ++ Lib.itoa x) ++ [32]) ++ Lib.itoa y) ++ [32]) ++ Lib.itoa z) ++ [10] = a ++ numT [32] [x, y, z] ++ [10] := by
  have e1 : numT [32] [x, y] = Lib.itoa x ++ (32 :: Lib.itoa y) := by
    have := numT_snoc (sep := [32]) (l := [x]) (by simp) y
    rw [numT_one] at this; exact this
  have e2 : numT [32] [x, y, z] = (Lib.itoa x ++ (32 :: Lib.itoa y)) ++ (32 :: Lib.itoa z) := by
    have := numT_snoc (sep := [32]) (l := [x, y]) (by simp) z
    rw [e1] at this; exact this
  rw [e2]; simp
theorem stTxt_len {g : Gm} {s : Int × List (List Int)} (h : strB g s = true) : (stTxt g s).length ≤ 72000 := by
  obtain ⟨p1, p2, p3, p4, p5⟩ := isGameB_parts (strB_parts h).1
  obtain ⟨t1, t2, t3, t4⟩ := isTreeB_spec p1
  have h1 := sets_len g s.1 t1.2 p2.2
  have h2 := stTo_len h _ (Nat.le_refl _)
  unfold stTxt; omega
section
attribute [-go_sem] load1C load1V fldC lenC idxC loadNV
set_option maxRecDepth 20000 in
theorem spec_ClaimText_ok (g : Gm) (c : Cl) (hg : gameL g) (hf : rowsL c.f.2) (hs : rowsL c.s.2) : Pure Tryd.prog 6 [gameT g, claimT c] (.tup [txtV (clRes g c).1, .i (clRes g c).2]) := by
  have hcd := spec_l28Code_ok g c hg hf hs
  have ht1 := spec_StrategyText_ok g c.f hg hf
  have ht2 := spec_StrategyText_ok g c.s hg hs
  simp only [gameT, claimT, nodes, rows] at hcd
  simp only [gameT, stratT, nodes, rows] at ht1 ht2
  refine fun_spec_ClaimText (by simp) ?_
  simp -implicitDefEqProofs only [go_sem, evR, ints, rows, rat, rats, c_spec_ClaimText, gameT, claimT, nodes]
  refine CallW.pure hcd [] rfl Tryd.call15 ?_ (by first | trivial | simp [T.noSh, T.noShL, rat]) rfl ?_
  · simp -implicitDefEqProofs only [agR, Nat.reduceLeDiff, Nat.reduceSub, vaR, go_sem, ints, rows, rat, rats, ratsO, rtR, intsO, rowsO]
  simp -implicitDefEqProofs only [go_sem, evR, ints, rows, rat, rats]
  refine ⟨fun h => ?_, fun h => ?_⟩
  · have h : ¬ clCode g c = 0 := by simpa using h
    rw [clRes, if_neg h]; rfl
  have h : clCode g c = 0 := by simpa using h
  obtain ⟨a1, a2⟩ := clCode_zero.1 h
  obtain ⟨b1, b2, b3, b4, b5⟩ := prB_iff.1 a2
  obtain ⟨f1, f2, _, _⟩ := pairG_parts b1
  have ba := bestN_abs f1
  have bb := bestN_abs f2
  have hhi : -9223372036854775807 ≤ c.hi := by omega
  rw [stRes, if_pos f1] at ht1
  rw [stRes, if_pos f2] at ht2
  have l1 := stTxt_len f1
  have l2 := stTxt_len f2
  have hu := unit_bound a1
  have hn1 := spec_l01Number_ok c.lo (by omega) (by omega)
  have hn2 := spec_l01Number_ok c.hi hhi (by omega)
  have hun := spec_l23Unit_ok g a1
  simp only [gameT, nodes, rows] at hun
  have hd := spec_l01Dec_ok (unit g).toNat (by omega)
  rw [show (((unit g).toNat : Nat) : Int) = unit g by omega, ← itoa_pos hu.1] at hd
  have k1 := itoa_len (x := c.lo) (by omega) (by omega)
  have k2 := itoa_len (x := c.hi) hhi (by omega)
  have k3 := itoa_len (x := unit g) (by omega) (by omega)
  have k32 : (⟨#[32]⟩ : ByteArray) = txt [32] := rfl
  have k10 : (⟨#[10]⟩ : ByteArray) = txt [10] := rfl
  refine CallW.pure ht1 [] rfl Tryd.call16 ?_ (by first | trivial | simp [T.noSh, T.noShL, rat]) rfl ?_
  · simp -implicitDefEqProofs only [agR, Nat.reduceLeDiff, Nat.reduceSub, vaR, go_sem, ints, rows, rat, rats, ratsO, rtR, intsO, rowsO]
  simp -implicitDefEqProofs only [go_sem, evR, ints, rows, rat, rats, txtV]
  refine CallW.pure ht2 [] rfl Tryd.call16 ?_ (by first | trivial | simp [T.noSh, T.noShL, rat]) rfl ?_
  · simp -implicitDefEqProofs only [agR, Nat.reduceLeDiff, Nat.reduceSub, vaR, go_sem, ints, rows, rat, rats, ratsO, rtR, intsO, rowsO]
  simp -implicitDefEqProofs only [go_sem, evR, ints, rows, rat, rats, txtV, txt_append, txt_size, List.length_append]
  refine ⟨by (try simp); omega, ?_⟩
  refine CallV.pure hn1 [] rfl Tryd.call17 (fun e R' hR => ?_) (by first | trivial | simp [T.noSh, T.noShL, rat]) (fun _ => rfl) ?_
  · simp -implicitDefEqProofs only [agR, Nat.reduceLeDiff, Nat.reduceSub, vaR, go_sem, ints, rows, rat, rats, ratsO, rtR, intsO, rowsO]
  simp -implicitDefEqProofs only [go_sem, evR, ints, rows, rat, rats, txtV, k32, txt_append, txt_size, List.length_append]
  refine ⟨by (try simp); omega, by (try simp); omega, ?_⟩
  refine CallV.pure hn2 [] rfl Tryd.call17 (fun e R' hR => ?_) (by first | trivial | simp [T.noSh, T.noShL, rat]) (fun _ => rfl) ?_
  · simp -implicitDefEqProofs only [agR, Nat.reduceLeDiff, Nat.reduceSub, vaR, go_sem, ints, rows, rat, rats, ratsO, rtR, intsO, rowsO]
  simp -implicitDefEqProofs only [go_sem, evR, ints, rows, rat, rats, txtV, k32, txt_append, txt_size, List.length_append]
  refine ⟨by (try simp); omega, by (try simp); omega, ?_⟩
  refine CallV.pure hun [] rfl Tryd.call19 (fun e R' hR => ?_) (by first | trivial | simp [T.noSh, T.noShL, rat]) (fun _ => rfl) ?_
  · simp -implicitDefEqProofs only [agR, Nat.reduceLeDiff, Nat.reduceSub, vaR, go_sem, ints, rows, rat, rats, ratsO, rtR, intsO, rowsO]
  simp -implicitDefEqProofs only [go_sem, evR, ints, rows, rat, rats]
  refine CallV.pure hd [] rfl Tryd.call18 (fun e R' hR => ?_) (by first | trivial | simp [T.noSh, T.noShL, rat]) (fun _ => rfl) ?_
  · simp -implicitDefEqProofs only [agR, Nat.reduceLeDiff, Nat.reduceSub, vaR, go_sem, ints, rows, rat, rats, ratsO, rtR, intsO, rowsO]
  simp -implicitDefEqProofs only [go_sem, evR, ints, rows, rat, rats, txtV, k10, txt_append, txt_size, List.length_append]
  refine ⟨by (try simp); omega, by (try simp); omega, ?_⟩
  have e := num3 (stTxt g c.f ++ stTxt g c.s) c.lo c.hi (unit g)
  rw [e, clRes, if_pos h]; rfl
end
end Go.Ab

/- Texts of strategies (the program). -/
set_option linter.unusedSimpArgs false
set_option linter.unusedVariables false
namespace Go.Ab
open Go.Proofs
theorem strings_Write (l m : List UInt8) (h : l.length + m.length ≤ 140737488355328) : Fun Tryd.prog 51 [.bld 84 5 (Lib.byteCells l)] [.own 1000000000, .t (txtV m)] fun o r => o = [.bld 84 5 (Lib.byteCells (l ++ m))] ∧ r = .tup [.i (m.length : Int), .v .nilIface] := by
  have h := strings_WriteString (Lib.byteCells l) (txt m) (by rw [Lib.byteCells_length, txt_size]; exact h)
  rw [show Lib.strCells (txt m) = Lib.byteCells m from rfl, ← Lib.byteCells_append, txt_size] at h
  exact h
theorem strat_ne {g : Gm} {s : Int × List (List Int)} (h : strB g s = true) : ∀ p ∈ s.2, p ≠ [] := by
  obtain ⟨h1, h2, h3⟩ := strB_parts h
  simp only [isStratB, Bool.and_eq_true, decide_eq_true_eq, List.all_eq_true, List.mem_range] at h3
  intro p hp hn
  subst hn
  obtain ⟨e, he, hee⟩ := List.mem_iff_getElem.1 hp
  have h4 := h3.2 e (by omega)
  have hg : s.2.getD e [] = [] := by rw [List.getD_eq_getElem?_getD, List.getElem?_eq_getElem he, hee]; rfl
  rw [hg] at h4
  simp [partOK, sumI] at h4
section
attribute [-go_sem] load1C load1V fldC lenC idxC loadNV
set_option maxRecDepth 20000 in
theorem impl_StrategyText_ok (g : Gm) (s : Int × List (List Int)) (hg : gameL g) (hs : rowsL s.2) : Pure Tryd.prog 25 [gameT g, stratT s] (.tup [txtV (stRes g s).1, .i (stRes g s).2]) := by
  have hst := impl_IsStrategy_ok g s hg hs
  simp only [gameT, stratT, nodes, rows] at hst
  refine fun_impl_StrategyText_h (by simp) ?_
  simp -implicitDefEqProofs only [go_sem, evR, ints, rows, rat, rats, c_impl_StrategyText_h, gameT, stratT, nodes]
  unfold stRes
  cases hb : strB g s with
  | false =>
    rw [hb] at hst
    refine CallW.pure hst [] rfl Tryd.call49 ?_ (by first | trivial | simp [T.noSh, T.noShL, rat]) rfl ?_
    · simp -implicitDefEqProofs only [agR, Nat.reduceLeDiff, Nat.reduceSub, vaR, go_sem, ints, rows, rat, rats, ratsO, rtR, intsO, rowsO]
    simp -implicitDefEqProofs only [go_sem, evR, ints, rows, rat, rats, show (!false) = true from rfl]
    rfl
  | true =>
    rw [hb] at hst
    refine CallW.pure hst [] rfl Tryd.call49 ?_ (by first | trivial | simp [T.noSh, T.noShL, rat]) rfl ?_
    · simp -implicitDefEqProofs only [agR, Nat.reduceLeDiff, Nat.reduceSub, vaR, go_sem, ints, rows, rat, rats, ratsO, rtR, intsO, rowsO]
    simp -implicitDefEqProofs only [go_sem, evR, ints, rows, rat, rats, show (!true) = false from rfl]
    obtain ⟨hl, hp⟩ := strat_at hb
    have hlen := stTo_len hb
    obtain ⟨p1, p2, p3, p4, p5⟩ := isGameB_parts (strB_parts hb).1
    obtain ⟨t1, t2, t3, t4⟩ := isTreeB_spec p1
    have hsl := sets_len g s.1 t1.2 p2.2
    have hsr := impl_infoSets_ok g s.1 t1.2 p2.2
    simp only [gameT, nodes, rows] at hsr
    refine CallW.res hsr [] rfl Tryd.call50 ?_ (.inl rfl) ?_
    · simp -implicitDefEqProofs only [agR, Nat.reduceLeDiff, Nat.reduceSub, vaR, go_sem, ints, rows, rat, rats, ratsO, rtR, intsO, rowsO]
    simp -implicitDefEqProofs only [clR, Nat.reduceLeDiff, go_sem, evR, rat, rowsO]
    refine SemC.loopR (σ := Nat) (fun i => St.of [(3, .own 93), (6, .own 6), (16, .t (rows (sets g s.1))), (17, .t (.i (sets g s.1).length)), (18, .t (.i i))] [(93, .box [.i s.1, rows s.2]), (6, .bld 84 5 (Lib.byteCells (stTo g s i)))]) (fun i => i ≤ (sets g s.1).length) (fun i => (sets g s.1).length - i) 0 (Weak.trans (Weak.share 16 rfl) (Weak.of _ _ [some 3, some 6] (by simp) (by simp) ?_ ⟨⟨_, rfl, .refl _⟩, rfl, ⟨_, rfl, .refl _⟩, rfl, trivial⟩)) (by omega) fun i hi R hn hr he => ?_
    · simp -implicitDefEqProofs only [ints, rows, Nat.reduceBEq, wkR, Nat.reduceEqDiff, ↓reduceIte, wrR, shareA, arr_toSh]
    · have hb200 := hlen i hi
      rcases Nat.lt_or_ge i (sets g s.1).length with h9 | h9
      · obtain ⟨x, hx⟩ : ∃ x, (sets g s.1)[i]? = some x := ⟨_, List.getElem?_eq_getElem h9⟩
        obtain ⟨a, c, rfl, ha, hc⟩ := sets_at hx
        obtain ⟨q, hq⟩ : ∃ q, s.2[i]? = some q := ⟨_, List.getElem?_eq_getElem (by omega)⟩
        obtain ⟨q1, q2⟩ := hp q (List.mem_of_getElem? hq)
        have hnx : stTo g s (i + 1) = stTo g s i ++ lineT [(a : Int), (c : Int)] q := by
          rw [stTo_succ, show (sets g s.1).getD i [] = [(a : Int), (c : Int)] by rw [List.getD_eq_getElem?_getD, hx]; rfl, show s.2.getD i [] = q by rw [List.getD_eq_getElem?_getD, hq]; rfl]
        have hj1 := impl_joinNumbers_small [(a : Int), (c : Int)] 47 (by simp) (by simp) (fun x hx => by simp at hx; omega)
        have hj2 := impl_joinNumbers_small q 44 (strat_ne hb q (List.mem_of_getElem? hq)) (by omega) (fun x hx => by have := q2 x hx; omega)
        have l1 := numT_len (s := 47) [(a : Int), (c : Int)] (fun x hx => by simp at hx; omega)
        have l2 := numT_len (s := 44) q fun x hx => by have := q2 x hx; omega
        simp only [List.length_cons, List.length_nil] at l1
        have k47 : (⟨#[47]⟩ : ByteArray) = txt [47] := rfl
        have k44 : (⟨#[44]⟩ : ByteArray) = txt [44] := rfl
        have k58 : (⟨#[58]⟩ : ByteArray) = txt [58] := rfl
        have k10 : (⟨#[10]⟩ : ByteArray) = txt [10] := rfl
        have hw := strings_Write (stTo g s i) (lineT [(a : Int), (c : Int)] q) (by have := line_len (i := a) (c := c) (p := q) (by omega) (by omega) q1 q2; omega)
        rw [← hnx] at hw
        have hlt : lineT [(a : Int), (c : Int)] q = ((numT [47] [(a : Int), (c : Int)] ++ [58]) ++ numT [44] q) ++ [10] := by simp [lineT]
        rw [hlt] at hw
        simp only [txtV] at hj1 hj2 hw
        simp -implicitDefEqProofs only [go_sem, evR, ints, rows, rat, rats, txtV, hx, hq, k47, k44, decide_eq_true (show (i : Int) < ((sets g s.1).length : Int) by omega)]
        refine ⟨by omega, by omega, by omega, ?_⟩
        refine CallV.pure hj1 [] rfl Tryd.call26 (fun e R' hR => ?_) (by first | trivial | simp [T.noSh, T.noShL, rat]) (fun _ => rfl) ?_
        · simp -implicitDefEqProofs only [agR, Nat.reduceLeDiff, Nat.reduceSub, vaR, go_sem, ints, rows, rat, rats, ratsO, rtR, intsO, rowsO]
        simp -implicitDefEqProofs only [go_sem, evR, ints, rows, rat, rats, txtV, k47, k44, k58, k10, txt_append, txt_size, List.length_append, hq]
        refine ⟨by omega, by omega, by omega, by omega, ?_⟩
        refine CallV.pure hj2 [] rfl Tryd.call26 (fun e R' hR => ?_) (by first | trivial | simp [T.noSh, T.noShL, rat]) (fun _ => rfl) ?_
        · simp -implicitDefEqProofs only [agR, Nat.reduceLeDiff, Nat.reduceSub, vaR, go_sem, ints, rows, rat, rats, ratsO, rtR, intsO, rowsO]
        simp -implicitDefEqProofs only [go_sem, evR, ints, rows, rat, rats, txtV, k47, k44, k58, k10, txt_append, txt_size, List.length_append]
        refine ⟨by (try simp); omega, by (try simp); omega, ?_⟩
        refine CallH.ref hw [6] [] rfl Tryd.call51 (by simp) ?_ (by simp) (fun e R' hR => ?_) (.inl rfl) ?_
        · simp -implicitDefEqProofs only [srR, Nat.reduceEqDiff, ↓reduceIte, ints, rows, intsO, rowsO]
        · simp -implicitDefEqProofs only [agR, Nat.reduceLeDiff, Nat.reduceSub, vaR, go_sem, ints, rows, rat, rats, ratsO, rtR, intsO, rowsO]
        simp -implicitDefEqProofs only [clR, Nat.reduceLeDiff, go_sem, evR, rat, txtV]
        refine ⟨?_, (frameOK.refl _ _ _).upd _ (.inl (by simp))⟩
        refine hn _ (i + 1) (Weak.of _ _ [some 93, some 6] (by simp) (by simp) ?_ ⟨⟨_, rfl, .refl _⟩, rfl, ⟨_, rfl, .refl _⟩, rfl, trivial⟩) (by omega) (by omega)
        simp -implicitDefEqProofs only [ints, rows, Nat.reduceBEq, wkR, Nat.reduceEqDiff, ↓reduceIte, wrR, next64 h9 (by omega), txtV]
      · simp -implicitDefEqProofs only [go_sem, evR, ints, rows, rat, rats, decide_eq_false (show ¬ (i : Int) < ((sets g s.1).length : Int) by omega)]
        refine he _ _ ?_
        have e : i = (sets g s.1).length := by omega
        subst e
        have hS := strings_String (stTo g s (sets g s.1).length)
        simp only [txtV] at hS
        simp -implicitDefEqProofs only [go_sem, evR, ints, rows, rat, rats, stTxt, txtV]
        refine CallW.ref hS [6] [] rfl Tryd.call52 (by simp) ?_ (by simp) ?_ (.inl rfl) ?_
        · simp -implicitDefEqProofs only [srR, Nat.reduceEqDiff, ↓reduceIte, ints, rows, intsO, rowsO]
        · simp -implicitDefEqProofs only [agR, Nat.reduceLeDiff, Nat.reduceSub, vaR, go_sem, ints, rows, rat, rats, ratsO, rtR, intsO, rowsO]
        simp -implicitDefEqProofs only [clR, Nat.reduceLeDiff, go_sem, evR, rat]
end
end Go.Ab

/- Texts of claims (the program). -/
set_option linter.unusedSimpArgs false
set_option linter.unusedVariables false
namespace Go.Ab
open Go.Proofs
section
attribute [-go_sem] load1C load1V fldC lenC idxC loadNV
set_option maxRecDepth 20000 in
theorem impl_ClaimText_G (g : Gm) (c : Cl) (hg : gameL g) (hf : rowsL c.f.2) (hs : rowsL c.s.2) : FunG Tryd.prog powG 9 [] [.t (gameT g), .t (claimT c)] fun o r => o = [] ∧ r = .tup [txtV (clRes g c).1, .i (clRes g c).2] := by
  have hig := impl_IsGame_ok g hg
  have hpr := impl_isProved_ok g c hg hf hs
  have ht1 := impl_StrategyText_ok g c.f hg hf
  have ht2 := impl_StrategyText_ok g c.s hg hs
  simp only [gameT, claimT, nodes, rows] at hpr hig
  simp only [gameT, stratT, nodes, rows] at ht1 ht2
  refine Fun.ofG powG (n := 44) (H := ⟨[], []⟩) (rv := [.tmp 4, .tmp 5]) (c := c_impl_ClaimText) Tryd.func9 rfl rfl rfl (by kernel_rfl) (by simp) (by decide) ?_
  simp -implicitDefEqProofs only [go_sem, evR, ints, rows, rat, rats, c_impl_ClaimText, gameT, claimT, nodes]
  refine CallW.pure hig [] rfl Tryd.call23 ?_ (by first | trivial | simp [T.noSh, T.noShL, rat]) rfl ?_
  · simp -implicitDefEqProofs only [agR, Nat.reduceLeDiff, Nat.reduceSub, vaR, go_sem, ints, rows, rat, rats, ratsO, rtR, intsO, rowsO]
  simp -implicitDefEqProofs only [go_sem, evR, ints, rows, rat, rats]
  refine ⟨fun h => ?_, fun h => ?_⟩
  · have h1 : isGameB g = false := by simpa using h
    have h2 : clCode g c = 1 := by unfold clCode; rw [h1]; rfl
    rw [clRes, h2]; rfl
  have h1 : isGameB g = true := by simpa using h
  refine CallW.pure hpr [] rfl Tryd.call24 ?_ (by first | trivial | simp [T.noSh, T.noShL, rat]) rfl ?_
  · simp -implicitDefEqProofs only [agR, Nat.reduceLeDiff, Nat.reduceSub, vaR, go_sem, ints, rows, rat, rats, ratsO, rtR, intsO, rowsO]
  simp -implicitDefEqProofs only [go_sem, evR, ints, rows, rat, rats]
  refine ⟨fun h => ?_, fun h => ?_⟩
  · have h2 : prB g c = false := by simpa using h
    have h3 : clCode g c = 5 := by unfold clCode; rw [h1, h2]; rfl
    rw [clRes, h3]; rfl
  have a2 : prB g c = true := by simpa using h
  have a1 := h1
  have h := clCode_zero.2 ⟨h1, a2⟩
  obtain ⟨b1, b2, b3, b4, b5⟩ := prB_iff.1 a2
  obtain ⟨f1, f2, _, _⟩ := pairG_parts b1
  have ba := bestN_abs f1
  have bb := bestN_abs f2
  have hhi : -9223372036854775807 ≤ c.hi := by omega
  rw [stRes, if_pos f1] at ht1
  rw [stRes, if_pos f2] at ht2
  have l1 := stTxt_len f1
  have l2 := stTxt_len f2
  have hu := unit_bound a1
  have hun := impl_unitOf_ok g a1
  simp only [gameT, nodes, rows] at hun
  have hjn := impl_joinNumbers_G [c.lo, c.hi, unit g] 32 (by simp) (by simp) (fun x hx => by simp at hx; omega)
  have lj := numT_len (s := 32) [c.lo, c.hi, unit g] (fun x hx => by simp at hx; omega)
  simp only [List.length_cons, List.length_nil] at lj
  have k32 : (⟨#[32]⟩ : ByteArray) = txt [32] := rfl
  have k10 : (⟨#[10]⟩ : ByteArray) = txt [10] := rfl
  refine CallW.pure ht1 [] rfl Tryd.call25 ?_ (by first | trivial | simp [T.noSh, T.noShL, rat]) rfl ?_
  · simp -implicitDefEqProofs only [agR, Nat.reduceLeDiff, Nat.reduceSub, vaR, go_sem, ints, rows, rat, rats, ratsO, rtR, intsO, rowsO]
  simp -implicitDefEqProofs only [go_sem, evR, ints, rows, rat, rats, txtV]
  refine CallW.pure ht2 [] rfl Tryd.call25 ?_ (by first | trivial | simp [T.noSh, T.noShL, rat]) rfl ?_
  · simp -implicitDefEqProofs only [agR, Nat.reduceLeDiff, Nat.reduceSub, vaR, go_sem, ints, rows, rat, rats, ratsO, rtR, intsO, rowsO]
  simp -implicitDefEqProofs only [go_sem, evR, ints, rows, rat, rats, txtV, txt_append, txt_size, List.length_append]
  refine ⟨by (try simp); omega, ?_⟩
  refine CallV.pure hun [] rfl Tryd.call27 (fun e R' hR => ?_) (by first | trivial | simp [T.noSh, T.noShL, rat]) (fun _ => rfl) ?_
  · simp -implicitDefEqProofs only [agR, Nat.reduceLeDiff, Nat.reduceSub, vaR, go_sem, ints, rows, rat, rats, ratsO, rtR, intsO, rowsO]
  simp -implicitDefEqProofs only [go_sem, evR, ints, rows, rat, rats, txtV, k32, k10, txt_append, txt_size, List.length_append]
  refine CallV.pureG (args := [ints [c.lo, c.hi, unit g], txtV [32]]) hjn rfl [40] rfl Tryd.call26 (fun e R' hR => ?_) trivial (fun _ => rfl) ?_
  · have hq40 := (hR 40).resolve_left (by simp -implicitDefEqProofs only [go_sem, evR, ints, rows, rat, rats, not_false_eq_true])
    simp -implicitDefEqProofs only [go_sem, evR, ints, rows, rat, rats] at hq40
    simp -implicitDefEqProofs only [agR, Nat.reduceLeDiff, Nat.reduceSub, vaR, go_sem, ints, rows, rat, rats, ratsO, rtR, intsO, rowsO, hq40, txtV, T.toSh, T.toShL, List.map_cons, List.map_nil, T.i]
  simp -implicitDefEqProofs only [go_sem, evR, ints, rows, rat, rats, txtV, k10, txt_append, txt_size, List.length_append]
  refine ⟨by (try simp); omega, by (try simp); omega, ?_⟩
  rw [clRes, if_pos h]; rfl
end
end Go.Ab

/- The law FnExactClaimText, as a contract. -/
set_option linter.unusedSimpArgs false
set_option linter.unusedVariables false
namespace Go.Ab
open Go.Proofs

section
attribute [-go_sem] load1C load1V fldC lenC idxC loadNV nilCheckW
set_option maxRecDepth 20000 in
theorem laws_FnExactClaimText_G (g : Gm) (hg : gameL g) (c : Cl) (hc : rowsL c.f.2) (hc' : rowsL c.s.2) : FunG Tryd.prog powG 3 [] [.t (gameT g), .t (claimT c)] fun o r => o = [] ∧ r = .b true := by
  refine Fun.ofG powG (n := 58) (H := ⟨[], []⟩) (rv := [.tmp 4]) (c := c_laws_FnExactClaimText) Tryd.func3 rfl rfl rfl (by kernel_rfl) (by simp) (by decide) ?_
  simp -implicitDefEqProofs only [go_sem, evR, ints, rows, rat, rats, c_laws_FnExactClaimText, gameT, stratT, claimT, gameO, stratO, claimO, nodes, nodesO, rowsO, intsO]
  have hc1 := laws_szGame_ok g 1048576 hg (by omega) (by omega)
  (try simp only [gameT, stratT, claimT, gameO, stratO, claimO, nodes, nodesO, rows, rowsO, ints, intsO, txtV] at hc1)
  refine CallW.pure hc1 [] rfl Tryd.call4 ?_ (by first | trivial | simp [T.noSh, T.noShL, rat]) rfl ?_
  · simp -implicitDefEqProofs only [agR, Nat.reduceLeDiff, Nat.reduceSub, vaR, go_sem, ints, rows, rat, rats, ratsO, rtR, intsO, rowsO]
  simp -implicitDefEqProofs only [go_sem, evR, ints, rows, rat, rats, opR, Nat.reduceBEq, cellsV, noLk, readOK, readA, mergeR_at]
  refine ⟨fun _ => trivial, fun hb0 => ?_⟩
  obtain ⟨hgS, hgb1, hgb2⟩ := budgetG_S (g := g) (left := 1048576) (by omega) (by omega) hb0
  have hg12 := gameS_12 hgS
  have hc2 := laws_szClaim_ok c (budgetG g 1048576) hc hc' (by omega) (by omega)
  (try simp only [gameT, stratT, claimT, gameO, stratO, claimO, nodes, nodesO, rows, rowsO, ints, intsO, txtV] at hc2)
  refine CallW.pure hc2 [] rfl Tryd.call5 ?_ (by first | trivial | simp [T.noSh, T.noShL, rat]) rfl ?_
  · simp -implicitDefEqProofs only [agR, Nat.reduceLeDiff, Nat.reduceSub, vaR, go_sem, ints, rows, rat, rats, ratsO, rtR, intsO, rowsO]
  simp -implicitDefEqProofs only [go_sem, evR, ints, rows, rat, rats, opR, Nat.reduceBEq, cellsV, noLk, readOK, readA, mergeR_at]
  refine ⟨fun _ => trivial, fun hb1 => ?_⟩
  obtain ⟨⟨hcS, hcS'⟩, hcb1, hcb2⟩ := budgetC_S (c := c) (left := (budgetG g 1048576)) (by omega) (by omega) hb1
  have hxc := rowsS_12 hcS
  have hxc' := rowsS_12 hcS'
  have hc3 := laws_toGame_ok g hg12
  (try simp only [gameT, stratT, claimT, gameO, stratO, claimO, nodes, nodesO, rows, rowsO, ints, intsO, txtV] at hc3)
  refine CallC.res hc3 [] rfl Tryd.call7 (fun e R' hR => ?_) (.inl rfl) ?_
  · simp -implicitDefEqProofs only [agR, Nat.reduceLeDiff, Nat.reduceSub, vaR, go_sem, ints, rows, rat, rats, ratsO, rtR, intsO, rowsO]
  simp -implicitDefEqProofs only [clR, Nat.reduceLeDiff, go_sem, evR, rat, opR, Nat.reduceBEq, cellsV, noLk, readOK, readA, mergeR_at]
  have hc4 := laws_toClaim_ok c hxc hxc'
  (try simp only [gameT, stratT, claimT, gameO, stratO, claimO, nodes, nodesO, rows, rowsO, ints, intsO, txtV] at hc4)
  refine CallC.res hc4 [] rfl Tryd.call8 (fun e R' hR => ?_) (.inl rfl) ?_
  · simp -implicitDefEqProofs only [agR, Nat.reduceLeDiff, Nat.reduceSub, vaR, go_sem, ints, rows, rat, rats, ratsO, rtR, intsO, rowsO]
  simp -implicitDefEqProofs only [clR, Nat.reduceLeDiff, go_sem, evR, rat, opR, Nat.reduceBEq, cellsV, noLk, readOK, readA, mergeR_at]
  have hc5 := spec_ClaimText_ok g c (gameS_L hgS) (rowsS_L hcS) (rowsS_L hcS')
  (try simp only [gameT, stratT, claimT, gameO, stratO, claimO, nodes, nodesO, rows, rowsO, ints, intsO, txtV] at hc5)
  refine CallV.pure hc5 [24, 26, 25001, 25002, 27001] rfl Tryd.call6 (fun e R' hR => ?_) (by first | trivial | simp [T.noSh, T.noShL, rat]) (fun _ => rfl) ?_
  · have hq24 := (hR 24).resolve_left (by simp -implicitDefEqProofs only [go_sem, evR, ints, rows, rat, rats, not_false_eq_true]); have hq26 := (hR 26).resolve_left (by simp -implicitDefEqProofs only [go_sem, evR, ints, rows, rat, rats, not_false_eq_true]); have hq25001 := (hR 25001).resolve_left (by simp -implicitDefEqProofs only [go_sem, evR, ints, rows, rat, rats, not_false_eq_true]); have hq25002 := (hR 25002).resolve_left (by simp -implicitDefEqProofs only [go_sem, evR, ints, rows, rat, rats, not_false_eq_true]); have hq27001 := (hR 27001).resolve_left (by simp -implicitDefEqProofs only [go_sem, evR, ints, rows, rat, rats, not_false_eq_true])
    simp -implicitDefEqProofs only [go_sem, evR, ints, rows, rat, rats] at hq24 hq26 hq25001 hq25002 hq27001
    simp -implicitDefEqProofs only [agR, Nat.reduceLeDiff, Nat.reduceSub, vaR, go_sem, ints, rows, rat, rats, ratsO, rtR, intsO, rowsO, hq24, hq26, hq25001, hq25002, hq27001]
  simp -implicitDefEqProofs only [go_sem, evR, ints, rows, rat, rats, opR, Nat.reduceBEq, cellsV, noLk, readOK, readA, mergeR_at]
  have hc6 := laws_toGame_ok g hg12
  (try simp only [gameT, stratT, claimT, gameO, stratO, claimO, nodes, nodesO, rows, rowsO, ints, intsO, txtV] at hc6)
  refine CallW.res hc6 [] rfl Tryd.call7 ?_ (.inl rfl) ?_
  · simp -implicitDefEqProofs only [agR, Nat.reduceLeDiff, Nat.reduceSub, vaR, go_sem, ints, rows, rat, rats, ratsO, rtR, intsO, rowsO]
  simp -implicitDefEqProofs only [clR, Nat.reduceLeDiff, go_sem, evR, rat, opR, Nat.reduceBEq, cellsV, noLk, readOK, readA, mergeR_at]
  have hc7 := laws_toClaim_ok c hxc hxc'
  (try simp only [gameT, stratT, claimT, gameO, stratO, claimO, nodes, nodesO, rows, rowsO, ints, intsO, txtV] at hc7)
  refine CallW.res hc7 [] rfl Tryd.call8 ?_ (.inl rfl) ?_
  · simp -implicitDefEqProofs only [agR, Nat.reduceLeDiff, Nat.reduceSub, vaR, go_sem, ints, rows, rat, rats, ratsO, rtR, intsO, rowsO]
  simp -implicitDefEqProofs only [clR, Nat.reduceLeDiff, go_sem, evR, rat, opR, Nat.reduceBEq, cellsV, noLk, readOK, readA, mergeR_at]
  have hc8 := impl_ClaimText_G g c (gameS_L hgS) (rowsS_L hcS) (rowsS_L hcS')
  (try simp only [gameT, stratT, claimT, gameO, stratO, claimO, nodes, nodesO, rows, rowsO, ints, intsO, txtV] at hc8)
  refine CallW.pureG (args := [gameT g, claimT c]) (impl_ClaimText_G g c (gameS_L hgS) (rowsS_L hcS) (rowsS_L hcS')) rfl [36001, 36002, 36003, 37002, 37004] rfl Tryd.call9 ?_ ⟨trivial, trivial, trivial⟩ rfl ?_
  · simp -implicitDefEqProofs only [agR, Nat.reduceLeDiff, Nat.reduceSub, vaR, go_sem, ints, rows, rat, rats, ratsO, rtR, intsO, rowsO, gameT, claimT, nodes]
  simp -implicitDefEqProofs only [go_sem, evR, ints, rows, rat, rats, opR, Nat.reduceBEq, cellsV, noLk, readOK, readA, mergeR_at, txtV]
  have hc9 := laws_toGame_ok g hg12
  (try simp only [gameT, stratT, claimT, gameO, stratO, claimO, nodes, nodesO, rows, rowsO, ints, intsO, txtV] at hc9)
  refine CallC.res hc9 [] rfl Tryd.call7 (fun e R' hR => ?_) (.inl rfl) ?_
  · simp -implicitDefEqProofs only [agR, Nat.reduceLeDiff, Nat.reduceSub, vaR, go_sem, ints, rows, rat, rats, ratsO, rtR, intsO, rowsO]
  simp -implicitDefEqProofs only [clR, Nat.reduceLeDiff, go_sem, evR, rat, opR, Nat.reduceBEq, cellsV, noLk, readOK, readA, mergeR_at]
  have hc10 := laws_eqGame_ok g g hg12 hg12
  (try simp only [gameT, stratT, claimT, gameO, stratO, claimO, nodes, nodesO, rows, rowsO, ints, intsO, txtV] at hc10)
  refine CallV.pure hc10 [36001, 36002, 36003, 50, 51001, 51002] rfl Tryd.call10 (fun e R' hR => ?_) (by first | trivial | simp [T.noSh, T.noShL, rat]) (fun _ => rfl) ?_
  · have hq36001 := (hR 36001).resolve_left (by simp -implicitDefEqProofs only [go_sem, evR, ints, rows, rat, rats, not_false_eq_true]); have hq36002 := (hR 36002).resolve_left (by simp -implicitDefEqProofs only [go_sem, evR, ints, rows, rat, rats, not_false_eq_true]); have hq36003 := (hR 36003).resolve_left (by simp -implicitDefEqProofs only [go_sem, evR, ints, rows, rat, rats, not_false_eq_true]); have hq50 := (hR 50).resolve_left (by simp -implicitDefEqProofs only [go_sem, evR, ints, rows, rat, rats, not_false_eq_true]); have hq51001 := (hR 51001).resolve_left (by simp -implicitDefEqProofs only [go_sem, evR, ints, rows, rat, rats, not_false_eq_true]); have hq51002 := (hR 51002).resolve_left (by simp -implicitDefEqProofs only [go_sem, evR, ints, rows, rat, rats, not_false_eq_true])
    simp -implicitDefEqProofs only [go_sem, evR, ints, rows, rat, rats] at hq36001 hq36002 hq36003 hq50 hq51001 hq51002
    simp -implicitDefEqProofs only [agR, Nat.reduceLeDiff, Nat.reduceSub, vaR, go_sem, ints, rows, rat, rats, ratsO, rtR, intsO, rowsO, hq36001, hq36002, hq36003, hq50, hq51001, hq51002]
  simp -implicitDefEqProofs only [go_sem, evR, ints, rows, rat, rats, opR, Nat.reduceBEq, cellsV, noLk, readOK, readA, mergeR_at, not_true_eq_false, decide_true, decide_false]
  have hc11 := laws_toClaim_ok c hxc hxc'
  (try simp only [gameT, stratT, claimT, gameO, stratO, claimO, nodes, nodesO, rows, rowsO, ints, intsO, txtV] at hc11)
  refine CallC.res hc11 [] rfl Tryd.call8 (fun e R' hR => ?_) (.inl rfl) ?_
  · simp -implicitDefEqProofs only [agR, Nat.reduceLeDiff, Nat.reduceSub, vaR, go_sem, ints, rows, rat, rats, ratsO, rtR, intsO, rowsO]
  simp -implicitDefEqProofs only [clR, Nat.reduceLeDiff, go_sem, evR, rat, opR, Nat.reduceBEq, cellsV, noLk, readOK, readA, mergeR_at]
  have hc12 := laws_eqClaim_ok c c hxc hxc' hxc hxc'
  (try simp only [gameT, stratT, claimT, gameO, stratO, claimO, nodes, nodesO, rows, rowsO, ints, intsO, txtV] at hc12)
  refine CallV.pure hc12 [37002, 37004, 55, 56001] rfl Tryd.call11 (fun e R' hR => ?_) (by first | trivial | simp [T.noSh, T.noShL, rat]) (fun _ => rfl) ?_
  · have hq37002 := (hR 37002).resolve_left (by simp -implicitDefEqProofs only [go_sem, evR, ints, rows, rat, rats, not_false_eq_true]); have hq37004 := (hR 37004).resolve_left (by simp -implicitDefEqProofs only [go_sem, evR, ints, rows, rat, rats, not_false_eq_true]); have hq55 := (hR 55).resolve_left (by simp -implicitDefEqProofs only [go_sem, evR, ints, rows, rat, rats, not_false_eq_true]); have hq56001 := (hR 56001).resolve_left (by simp -implicitDefEqProofs only [go_sem, evR, ints, rows, rat, rats, not_false_eq_true])
    simp -implicitDefEqProofs only [go_sem, evR, ints, rows, rat, rats] at hq37002 hq37004 hq55 hq56001
    simp -implicitDefEqProofs only [agR, Nat.reduceLeDiff, Nat.reduceSub, vaR, go_sem, ints, rows, rat, rats, ratsO, rtR, intsO, rowsO, hq37002, hq37004, hq55, hq56001]
  simp -implicitDefEqProofs only [go_sem, evR, ints, rows, rat, rats, opR, Nat.reduceBEq, cellsV, noLk, readOK, readA, mergeR_at, not_true_eq_false, decide_true, decide_false]
end
end Go.Ab

set_option linter.unusedSimpArgs false
set_option linter.unusedVariables false
namespace Go.Proofs.YtnnmgdngfofjlaaDoor
open Go.ChangeShapes Go.WideShapes Go.ChangeAt Go.RowKit Go.Ab

namespace fnExactClaimText
theorem pow_glob {W : World} (h : laidMetH Tryd.prog Rows.fnExactClaimTextRow.laid W) : Rd W (Ob (fun _ => False) (fun _ => [])) powG undef := by
  have h := laidMetH.filter (fun x => x.1 == "internal/strconv.uint64pow10") h
  rw [MakeChecks.laidMetH_plain _ _ _ (by kernel_rfl)] at h
  have h : laidMet Tryd.prog [("internal/strconv.uint64pow10", Lib.tabData .u64 Lib.pow10Tab)] W := h
  have ht := Lib.tabIs_of_head (t := 137) (e := 124) (n := 20) Tryd.laysM173.m17 (by kernel_rfl) (by kernel_rfl) (by kernel_rfl) (by kernel_rfl) (by kernel_rfl) h
  unfold Lib.TabIs World.var? at ht
  rw [Tryd.laysM173.m17] at ht
  simp only [Option.bind_some] at ht
  split at ht
  · rename_i cs e fz hb
    cases ht
    exact .glob _ _ _ e fz Ob.none hb
  · cases ht
theorem said : ∀ xs, wtL [tyGame, tyClaim] xs → FunG Tryd.prog powG 3 [] (xs.map A.t) fun o r => o = [] ∧ r = .b true
  | [x0, x1], h => by
    obtain ⟨g, rfl, hg⟩ := wt_game h.1
    obtain ⟨c, rfl, hc, hc'⟩ := wt_claim h.2.1
    exact laws_FnExactClaimText_G g hg c hc hc'
  | [], h => h.elim
  | [_], h => h.2.elim
  | _ :: _ :: _ :: _, h => h.2.2.elim

set_option maxRecDepth 100000 in
theorem lifted (os : Os) (started : os.Started) (H : Type) (enc : TypeId × Value → H) :
    ReturnsInHanded {} Tryd.checked os 3 .any (fun w args => (Rows.fnExactClaimTextSpec.pre enc Tryd.prog Tryd.f3 [] false w args ∧ laidMetH Tryd.prog Rows.fnExactClaimTextRow.laid w) ∧ sizedMet enc Tryd.prog Tryd.f3 (OpenSpec.ofChange Rows.fnExactClaimTextSpec) false w args) (Rows.fnExactClaimTextSpec.post enc Tryd.prog Tryd.f3 false true false false) := by
  refine returnsInHanded_of_change_and (C := Tryd.checked) (X := fun w _ => laidMetH Tryd.prog Rows.fnExactClaimTextRow.laid w) (fun _ _ _ hh h => h.of_heap hh) (by kernel_rfl) started (by kernel_rfl) Tryd.func3
    (ChangeSpec.witness_shaped (enc := enc) (C := Tryd.checked) (X := fun w _ => laidMetH Tryd.prog Rows.fnExactClaimTextRow.laid w) false (World.laidAll Tryd.prog os Rows.fnExactClaimTextRow.laid) #[.agg #[.slice none 0 0, .slice none 0 0, .slice none 0 0], .agg #[.int .i64 0, .slice none 0 0, .int .i64 0, .slice none 0 0, .int .i64 0, .int .i64 0]] 8 (World.laidAll_os _ _ _) (World.shaped_of_ZipB (by kernel_rfl) (by kernel_rfl)) (by kernel_rfl) (by kernel_rfl) (by kernel_rfl)
      (by rw [MakeChecks.laidMetH_plain _ _ _ (by kernel_rfl)]; exact laidMet_laidAll _ (by kernel_rfl) (by kernel_rfl))) ?_
  intro W base args ds gs before hval hW _ _ hL _
  refine law_contractG (tys := [tyGame, tyClaim]) (by kernel_rfl) (by kernel_rfl) rfl (by kernel_rfl) rfl (fun ds h => ?_) said W base args ds gs before hval hW (pow_glob hL)
  match ds, h with
  | [d0, d1], _ => rfl

theorem andT {a b : Bool} (ha : a = true) (hb : b = true) : (a && b) = true := by rw [ha, hb]; rfl
theorem joined0 : ((Rows.fnExactClaimTextRow.wf (OpenSpec.ofChange Rows.fnExactClaimTextSpec))) = true := by kernel_rfl
theorem joined1 : (laidOutB Tryd.prog) = true := Tryd.laidOutT
theorem joined2 : (mapsRowed Tryd.prog) = true := Tryd.mapsRowedT
theorem joined3 : (Tryd.f3.params.all (Tryd.prog.readableRec ·)) = true := by kernel_rfl
theorem joined4 : (namedTie Tryd.prog Rows.fnExactClaimTextRow.named Rows.fnExactClaimTextSpec.vars) = true := by kernel_rfl
theorem joined5 : ((Rows.fnExactClaimTextRow.stops == [])) = true := by kernel_rfl
theorem joined6 : ((Tryd.prog.stops == [])) = true := by kernel_rfl
theorem joined7 : ((Rows.fnExactClaimTextRow.knobs == [])) = true := by kernel_rfl
theorem joined8 : ((Tryd.prog.stopKnobs == [])) = true := by kernel_rfl
theorem joined9 : ((Rows.fnExactClaimTextRow.inPlace == Tryd.prog.inPlace 3)) = true := by kernel_rfl
theorem joined10 : ((Rows.fnExactClaimTextRow.unfollowed == Tryd.prog.unfollowed 3)) = true := by kernel_rfl
theorem joined11 : ((Rows.fnExactClaimTextRow.recurses == Tryd.prog.recurses 3)) = true := by kernel_rfl
theorem joined12 : ((Rows.fnExactClaimTextRow.named == Tryd.prog.varsNamed 3)) = true := by kernel_rfl
theorem joined13 : ((Rows.fnExactClaimTextRow.maps == (Tryd.f3.params.toList ++ Rows.fnExactClaimTextSpec.plain.varTypes Tryd.prog).any (Tryd.prog.mapsRec ·))) = true := by kernel_rfl
theorem joined14 : ((Rows.fnExactClaimTextRow.ifaces == (Tryd.f3.params.toList ++ Rows.fnExactClaimTextSpec.plain.varTypes Tryd.prog).any (Tryd.prog.ifacesRec ·))) = true := by kernel_rfl
theorem joined15 : ((Rows.fnExactClaimTextRow.mapsOut == Tryd.prog.mapsAmong Tryd.f3.resultTypes.toList)) = true := by kernel_rfl
theorem joined16 : ((Rows.fnExactClaimTextRow.loops == (Tryd.f3.params.toList ++ Rows.fnExactClaimTextSpec.plain.varTypes Tryd.prog).any (Tryd.prog.loopsFrom ·))) = true := by kernel_rfl
theorem joined17 : ((Rows.fnExactClaimTextRow.wideKeys == (Tryd.f3.params.toList ++ Rows.fnExactClaimTextSpec.plain.varTypes Tryd.prog ++ Tryd.f3.resultTypes.toList).any (Tryd.prog.wideKeysFrom ·))) = true := by kernel_rfl
theorem joined18 : (Rows.fnExactClaimTextSpec.vars.all (Tryd.prog.varReadable ·)) = true := by kernel_rfl
theorem joined19 : (Tryd.f3.resultTypes.all (fun t => Tryd.prog.readableRec t && decide (t < Tryd.prog.types.size))) = true := by kernel_rfl
theorem joined20 : ((Rows.fnExactClaimTextRow.ifacesOut == Tryd.f3.resultTypes.toList.any (Tryd.prog.ifacesRec ·))) = true := by kernel_rfl
theorem joined21 : ((Rows.fnExactClaimTextRow.loopsOut == Tryd.f3.resultTypes.toList.any (Tryd.prog.loopsFrom ·))) = true := by kernel_rfl
theorem joined22 : ((Rows.fnExactClaimTextRow.plainKeys == Tryd.prog.plainKeys)) = true := by kernel_rfl
theorem joined23 : (Rows.fnExactClaimTextRow.shortTexts.isNone) = true := by kernel_rfl
theorem joined24 : (Tryd.prog.stopsHeard) = true := Tryd.heardT
theorem joined25 : (Tryd.prog.mayEnter) = true := Tryd.mayEnterT
theorem joined26 : ((Rows.fnExactClaimTextRow.lifted == Tryd.prog.liftsFinal)) = true := (by rw [Tryd.liftsF]; rfl)
theorem joined27 : ((Tryd.prog.make == some Rows.fnExactClaimTextRow.make)) = true := (by rw [Tryd.makeC]; rfl)
theorem joined28 : ((Rows.fnExactClaimTextRow.kinds == (if Rows.fnExactClaimTextRow.domain.isEmpty then [] else Tryd.f3.params.toList.map fun t => match Tryd.prog.underlying t with | some (.int k) => some k | _ => none))) = true := by kernel_rfl
theorem joined29 : ((Rows.fnExactClaimTextRow.pinned == Rows.fnExactClaimTextRow.pinnedBy)) = true := by kernel_rfl
theorem joined30 : ((Rows.fnExactClaimTextRow.veiled == (Tryd.f3.params.toList ++ Rows.fnExactClaimTextSpec.plain.varTypes Tryd.prog ++ Tryd.f3.resultTypes.toList).any (Tryd.prog.veiledRec ·))) = true := by kernel_rfl
theorem joined31 : (Rows.fnExactClaimTextRow.veiledFits Tryd.prog Tryd.f3.params.toList (Tryd.f3.params.toList ++ Rows.fnExactClaimTextSpec.plain.varTypes Tryd.prog ++ Tryd.f3.resultTypes.toList)) = true := by kernel_rfl
set_option maxRecDepth 100000 in
theorem joined : joinedFacts Tryd.prog 3 Tryd.f3 Rows.fnExactClaimTextSpec Rows.fnExactClaimTextRow = true := by
  unfold joinedFacts
  exact andT (andT (andT (andT (andT (andT (andT (andT (andT (andT (andT (andT (andT (andT (andT (andT (andT (andT (andT (andT (andT (andT (andT (andT (andT (andT (andT (andT (andT (andT (andT (joined0) joined1) joined2) joined3) joined4) joined5) joined6) joined7) joined8) joined9) joined10) joined11) joined12) joined13) joined14) joined15) joined16) joined17) joined18) joined19) joined20) joined21) joined22) joined23) joined24) joined25) joined26) joined27) joined28) joined29) joined30) joined31
theorem over : Rows.fnExactClaimTextRow.holds Tryd.pinned (OpenSpec.ofChange Rows.fnExactClaimTextSpec) :=
  OpenClaim.holds_of_wide 3 Tryd.f3 rfl rfl rfl rfl rfl rfl rfl ⟨rfl, rfl, rfl, rfl, rfl⟩ rfl rfl rfl rfl rfl (by kernel_rfl) Tryd.func3 joined
    (of_decide_eq_true (by kernel_rfl)) (by unfold Func.isWrapper; first | (rw [if_pos (by decide +kernel)]; kernel_rfl) | (rw [if_neg (by decide +kernel)]; exact ⟨rfl, rfl⟩))
    (fun os started H enc _ => lifted os started H enc)
end fnExactClaimText

theorem fnExactClaimText_holds : Rows.FnExactClaimTextCardSaid :=
  Claim7.holds_tied_plain_at .later [] [.data, .data, .data] true Rows.fnExactClaimTextCard.stood.harness false fnExactClaimText.over (fun _ h => by cases h) (by kernel_rfl) (fun _ h => by cases h) fnExactClaimText_row_tie rfl ⟨rfl, rfl⟩ (by kernel_rfl) rfl
    (fun f fn hf hfn => by
      obtain rfl : f = 3 := (Option.some.inj ((show Tryd.prog.funcNamed "loop.example/g00910/laws.FnExactClaimText" = some 3 by kernel_rfl).symm.trans hf)).symm
      obtain rfl : fn = Tryd.f3 := (Option.some.inj (Tryd.func3.symm.trans hfn)).symm
      exact ⟨by kernel_rfl, fun j t ht => by
        have hm : t ∈ Tryd.f3.params.toList := by simpa using Array.mem_of_getElem? ht
        have hall : (Tryd.f3.params.toList.all fun u => !Tryd.prog.wantsStandIn u) = true := by kernel_rfl
        exact (show Tryd.prog.wantsStandIn t = false by simpa using List.all_eq_true.1 hall t hm)⟩)
    (by kernel_rfl)
#print axioms fnExactClaimText_holds
end Go.Proofs.YtnnmgdngfofjlaaDoor

