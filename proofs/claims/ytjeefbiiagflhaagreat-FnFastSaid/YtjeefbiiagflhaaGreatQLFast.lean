/- Looking at one card of each class of alike cards gives the same equities as looking at all cards: the law FnFast returns true for every list of bytes. No conditions. -/
import Derived.Test.YtjeefbiiagflhaaGreatRows
import Derived.Test.YtjeefbiiagflhaaGreatQ7
set_option linter.unusedSimpArgs false
set_option linter.unusedVariables false
set_option maxRecDepth 20000
/- Equities by classes: the sums are the same (plain). -/
namespace Go.Ab
open Go.Proofs
theorem q1wo (l : List Int) : choL l 0 = [[]] := by cases l <;> rfl
theorem q1wn : ∀ l : List Int, choL l 1 = l.map fun x => [x]
 | [] => rfl
 | x :: l => by rw [choL, q1wo, q1wn l]; rfl
def q1yy (holes : List (List Int)) (b : List Int) : List (List Int) := holes ++ [b]
theorem q1yv (holes : List (List Int)) (b : List Int) : q1yt (q1yy holes b) = q1nk holes b [] := by
 have h1 : q1nk holes b [] = q1mf (q1yy holes b).flatten := q1mh fun x => by
  simp only [q1yy, List.append_nil, qY, qZ, List.flatten_nil, qI]
  exact Or.comm
 rw [h1]; rfl
theorem q1w0 {holes : List (List Int)} {b : List Int} (h4 : b.length = 4) : q1ak holes b [] = (q1yt (q1yy holes b)).map fun c => b ++ [c] := by
 rw [q1ak, h4, q1wn, List.map_map, q1yv]; rfl
theorem q1x9 {k : Nat} {holes : List (List Int)} {b : List Int} (h : q1ec k holes b []) : (∀ s ∈ q1yy holes b, s ≠ [] /\ s.length <= 52 /\ q1cv s) /\ (q1yy holes b).length <= 6 /\ (q1yy holes b).flatten ≠ [] := by
 obtain ⟨h1, h2, h3, h4, h5, hcd⟩ := h
 rw [List.append_nil] at hcd
 have hne : ∀ s ∈ q1yy holes b, s ≠ [] /\ s.length <= 52 /\ q1cv s := fun s hs => by
  rcases qI.1 hs with hs | hs
  ·have hl := h5 s hs
   have : hoOf k = 2 ∨ hoOf k = 4 := by unfold hoOf; split <;> simp
   refine ⟨fun e => by subst e; simp at hl; omega, by omega, ?_, fun x hx => hcd.2 x (qI.2 (.inr (rY.2 ⟨s, hs, hx⟩)))⟩
   exact (rC.1 hcd.1).2.1.sublist (List.sublist_flatten_of_mem hs)
  ·have : s = b := by simpa using hs
   subst this
   exact ⟨fun e => by subst e; simp at h3, by omega, (rC.1 hcd.1).1, fun x hx => hcd.2 x (by simp [hx])⟩
 refine ⟨hne, by simp [q1yy]; omega, fun e => ?_⟩
 have hb := (hne b (by simp [q1yy])).1
 have : b = [] := by
  rw [q1yy, qY] at e
  simpa using (List.append_eq_nil_iff.1 e).2
 exact hb this
theorem q1x8 {k : Nat} {holes : List (List Int)} {b : List Int} (h : q1ec k holes b []) (h4 : b.length = 4) : ∀ d, 0 <= d /\ d < 52 -> (∀ s ∈ q1yy holes b, d ∉ s) -> ∀ x ∈ holes, q1cv (x ++ (b ++ [d])) /\ x.length = hoOf k := by
 intro d hd hdn
 have hm : b ++ [d] ∈ q1ak holes b [] := by
  rw [q1w0 h4]
  exact qN.2 ⟨d, q1yu.2 ⟨hd, hdn⟩, rfl⟩
 exact (q1aj h hm).2
theorem q1vo (A B : List Int) {p : Nat} (hp : p < A.length) : (addL A B).getD p 0 = A.getD p 0 + B.getD p 0 := by
 rw [qA, addL, q1qj hp]; rfl
theorem q1yo (L : List Int) (z : Int) (p : Nat) : (L.map fun y => y * z).getD p 0 = L.getD p 0 * z := by
 rw [qA, qU, qA]
 cases L[p]? <;> simp
def sumF (k : Nat) (holes : List (List Int)) (b : List Int) (z : Int -> Int) (C : List Int) : Nat -> List Int
 | 0 => List.replicate holes.length 0
 | i + 1 => addL (sumF k holes b z C i) ((q1o6 k holes (b ++ [C.getD i 0])).map fun y => y * z (C.getD i 0))
theorem q1zy (k : Nat) (holes : List (List Int)) (b : List Int) (z : Int -> Int) (C : List Int) : ∀ i, (sumF k holes b z C i).length = holes.length
 | 0 => by simp [sumF]
 | i + 1 => by rw [sumF, q19q, q1zy k holes b z C i]
theorem q1zw (k : Nat) (holes : List (List Int)) (b : List Int) (z : Int -> Int) (hz : ∀ c, 0 <= z c /\ z c <= 24) (C : List Int) : ∀ i, ∀ x ∈ sumF k holes b z C i, 0 <= x /\ x <= 1152 * (i : Int)
 | 0 => fun x hx => by rw [List.eq_of_mem_replicate hx]; omega
 | i + 1 => fun x hx => by
   have := q19r (q1zw k holes b z hz C i) (b := 1152) (B := (q1o6 k holes (b ++ [C.getD i 0])).map fun y => y * z (C.getD i 0)) (fun y hy => by
    obtain ⟨w, hw, rfl⟩ := qN.1 hy
    have h1 : 0 <= w /\ w <= 48 := by rw [q1o6] at hw; exact q19z _ _ _ w hw
    obtain ⟨z0, z1⟩ := hz (C.getD i 0)
    refine ⟨Int.mul_nonneg h1.1 z0, ?_⟩
    have : w * z (C.getD i 0) <= 48 * 24 := Int.mul_le_mul h1.2 z1 z0 (by decide)
    omega) (by omega) (by omega) x hx
   omega
theorem q1zv (k : Nat) (holes : List (List Int)) (b : List Int) (z : Int -> Int) (C : List Int) (p : Nat) (hp : p < holes.length) : ∀ i, i <= C.length -> (sumF k holes b z C i).getD p 0 = ((C.take i).map fun c => z c * (q1o6 k holes (b ++ [c])).getD p 0).sum
 | 0, _ => by
   rw [sumF, qA, rM, if_pos hp]; rfl
 | i + 1, hi => by
   obtain ⟨c, hc⟩ : ∃ c, C[i]? = some c := ⟨_, qB (by omega)⟩
   have hg : C.getD i 0 = c := by rw [qA, hc]; rfl
   rw [sumF, q1vo _ _ (by rw [q1zy]; exact hp), q1zv k holes b z C p hp i (by omega), hg, q1yo, q0uj hc, qG, List.sum_append_int, List.map_cons, List.map_nil, rZ, List.sum_nil, Int.mul_comm (z c)]
   omega
theorem q1zu (k : Nat) (holes B : List (List Int)) (p : Nat) (hp : p < holes.length) : ∀ i, i <= B.length -> (q1q5 k holes B i).getD p 0 = ((B.take i).map fun x => (q1o6 k holes x).getD p 0).sum
 | 0, _ => by
   rw [q1q5, qA, rM, if_pos hp]; rfl
 | i + 1, hi => by
   obtain ⟨c, hc⟩ : ∃ c, B[i]? = some c := ⟨_, qB (by omega)⟩
   have hg : B.getD i [] = c := by rw [qA, hc]; rfl
   rw [q1q5, q1vo _ _ (by rw [q1q7]; exact hp), q1zu k holes B p hp i (by omega), hg, q0uj hc, qG, List.sum_append_int, List.map_cons, List.map_nil, rZ, List.sum_nil]
   omega
def szF (S : List (List Int)) (c : Int) : Int := ((alL (fixL S) c).length : Int)
theorem q202 (S : List (List Int)) (c : Int) : 0 <= szF S c /\ szF S c <= 24 := by
 have h1 : (alL (fixL S) c).length <= (q1zc ((fixL S).map fun p => tk p c)).length := q1wy (q1ze _)
 rw [q1zf, qJ] at h1
 have h2 : (fixL S).length <= q1zk.length := List.length_filter_le _ _
 rw [q1zt.2.2.2] at h2
 unfold szF; omega
theorem q1zx {k : Nat} (hk : k <= 2) {holes : List (List Int)} {b : List Int} (h : q1ec k holes b []) (h4 : b.length = 4) : sumF k holes b (szF (q1yy holes b)) (clsL (q1yy holes b)) (clsL (q1yy holes b)).length = q1qc k holes b [] := by
 have hS : q1wk (q1yy holes b) := fun s hs => ((q1x9 h).1 s hs).2.2.2
 have e : ∀ p, p < holes.length -> (sumF k holes b (szF (q1yy holes b)) (clsL (q1yy holes b)) (clsL (q1yy holes b)).length).getD p 0 = (q1qc k holes b []).getD p 0 := fun p hp => by
  rw [q1zv _ _ _ _ _ p hp _ (qR _), rT, q1qc, q1zu _ _ _ p hp _ (qR _), rT, q1w0 h4, List.map_map]
  exact q1wu hS (fun c => (q1o6 k holes (b ++ [c])).getD p 0) fun c q hc hcn hq => by
   show (q1o6 k holes (b ++ [tk q c])).getD p 0 = (q1o6 k holes (b ++ [c])).getD p 0
   rw [q1yq hk h4 hq (q1x8 h h4) hc hcn]
 refine List.ext_getElem? fun p => ?_
 have l1 := q1zy k holes b (szF (q1yy holes b)) (clsL (q1yy holes b)) (clsL (q1yy holes b)).length
 have l2 : (q1qc k holes b []).length = holes.length := by rw [q1qc, q1q7]
 by_cases hp : p < holes.length
 ·have := e p hp
  rw [qA, qA, qB (by omega), qB (by omega)] at this
  rw [qB (by omega), qB (by omega)]
  exact congrArg some this
 ·rw [qP (by omega), qP (by omega)]
def cntF (z : Int -> Int) (C : List Int) (i : Nat) : Int := ((C.take i).map z).sum
theorem q1x4 {z : Int -> Int} {C : List Int} {i : Nat} {c : Int} (h : C[i]? = some c) : cntF z C (i + 1) = cntF z C i + z c := by
 rw [cntF, q0uj h, qG, List.sum_append_int, cntF]; simp
theorem q1x2 {z : Int -> Int} (hz : ∀ c, 0 <= z c /\ z c <= 24) (C : List Int) : ∀ i, i <= C.length -> 0 <= cntF z C i /\ cntF z C i <= 24 * (i : Int)
 | 0, _ => by simp [cntF]
 | i + 1, hi => by
   obtain ⟨c, hc⟩ : ∃ c, C[i]? = some c := ⟨_, qB (by omega)⟩
   have := q1x2 hz C i (by omega)
   have h2 := hz c
   rw [q1x4 hc]; omega
theorem q1x3 {holes : List (List Int)} {b : List Int} {k : Nat} (h : q1ec k holes b []) (h4 : b.length = 4) : cntF (szF (q1yy holes b)) (clsL (q1yy holes b)) (clsL (q1yy holes b)).length = ((q1ak holes b []).length : Int) := by
 have hS : q1wk (q1yy holes b) := fun s hs => ((q1x9 h).1 s hs).2.2.2
 have := q1wu hS (fun _ => 1) fun _ _ _ _ _ => rfl
 rw [cntF, rT, q1w0 h4, qJ]
 simp only [Int.mul_one] at this
 show ((clsL (q1yy holes b)).map fun c => ((alL (fixL (q1yy holes b)) c).length : Int)).sum = _
 rw [this]
 have := q201 (l := (q1yt (q1yy holes b)).map fun _ => (1 : Int)) (x := 1) fun y hy => by
  obtain ⟨_, _, rfl⟩ := qN.1 hy; rfl
 rw [this, qJ]; omega
theorem q1xn : ∀ {L : List (List Int)}, (∀ s ∈ L, s.length <= 4) -> L.flatten.length <= 4 * L.length
 | [], _ => by simp
 | s :: L, h => by
   have h1 := h s (by simp)
   have h2 := q1xn (L := L) fun q hq => h q (by simp [hq])
   rw [qZ, qD, List.length_cons]; omega
theorem q1w1 {k : Nat} {holes : List (List Int)} {b : List Int} (h : q1ec k holes b []) (h4 : b.length = 4) : 0 < (q1ak holes b []).length := by
 rw [q1w0 h4, qJ]
 apply rG
 intro hn
 have hnil : q1yt (q1yy holes b) = [] := List.length_eq_zero_iff.1 (by omega)
 have hall : ∀ x ∈ (List.range 52).map fun (j : Nat) => (j : Int), x ∈ (q1yy holes b).flatten := fun x hx => by
  obtain ⟨j, hj, rfl⟩ := qN.1 hx
  have hj : j < 52 := by simpa using hj
  apply rG
  intro hni
  have : (j : Int) ∈ q1yt (q1yy holes b) := q1yu.2 ⟨by omega, fun s hs hm => hni (rY.2 ⟨s, hs, hm⟩)⟩
  rw [hnil] at this; simp at this
 have h1 := q1lg (q1ys 52) hall
 obtain ⟨_, h2, _, _, h5, _⟩ := h
 have h6 := q1xn (L := holes) fun s hs => by
  rw [h5 s hs]; unfold hoOf; split <;> omega
 rw [qJ, List.length_range, q1yy, qY, qD] at h1
 simp only [qZ, List.flatten_nil, List.append_nil] at h1
 omega
def q1xc (v : Int) (holes : List (List Int)) (b : List Int) : List (Int × Int) × Int :=
 if q1eb v holes b [] = false then ([], 1) else if b.length = 4 then q1eo v holes b [] else ([], 2)
section
attribute [-go_sem] q0i5 q0id fldC lenC idxC q0ip
theorem Fun.nilA {P : Program} {f : FuncId} {rin : List T} {args args' : List A} {Q : List T -> T -> Prop} (h : Fun P f rin args' Q) (hl : args'.length = args.length)
  (ha : ∀ i (h : i < args'.length) (h' : i < args.length), args'[i] = args[i] ∨ ((∃ s, args'[i] = .t (.sh s [])) /\ args[i] = .t (.v (.slice none 0 0)))) : Fun P f rin args Q := fun X w vals hs fp hm hv hi => h X w vals hs fp hm (by omega) fun i h1 => by
 rcases ha i h1 (by omega) with e | ⟨⟨s, e1⟩, e2⟩
 ·rw [e]; exact hi i (by omega)
 ·have := hi i (by omega)
  rw [e2] at this
  rw [e1]
  cases this with
  | t hr => exact .t (q0j9 (.inr ⟨⟨s, rfl⟩, rfl⟩) hr)
theorem nil4 {a b c : T} : ∀ i (h : i < [A.t a, A.t b, A.t c, A.t (ints [])].length) (h' : i < [A.t a, A.t b, A.t c, A.t (.v (.slice none 0 0))].length), [A.t a, A.t b, A.t c, A.t (ints [])][i] = [A.t a, A.t b, A.t c, A.t (.v (.slice none 0 0))][i] ∨ ((∃ s, [A.t a, A.t b, A.t c, A.t (ints [])][i] = .t (.sh s [])) /\ [A.t a, A.t b, A.t c, A.t (.v (.slice none 0 0))][i] = .t (.v (.slice none 0 0)))
 | 0, _, _ => .inl rfl
 | 1, _, _ => .inl rfl
 | 2, _, _ => .inl rfl
 | 3, _, _ => .inr ⟨⟨1, rfl⟩, rfl⟩
 | n + 4, h, _ => absurd h (by simp)
theorem q1t4 (v : Int) (holes : List (List Int)) (board : List Int) (hh : holes.flatten.length <= 2000000) (hhn : holes.length <= 2000000) (hb : board.length <= 2000000) : Pure Tryz.prog 27 [.i v, rows holes, ints board, .v (.slice none 0 0)] (.b (q1eb v holes board [])) :=
 Fun.nilA (q1iz v holes board [] hh hhn hb (by simp)) rfl nil4
theorem q1tn (v : Int) (holes : List (List Int)) (board : List Int) (hh : holes.flatten.length <= 2000000) (hhn : holes.length <= 2000000) (hb : board.length <= 2000000) : Pure Tryz.prog 25 [.i v, rows holes, ints board, .v (.slice none 0 0)] (.b (q1eb v holes board [])) :=
 Fun.nilA (q1p0 v holes board [] hh hhn hb (by simp)) rfl nil4
theorem q1sm {v : Int} {holes : List (List Int)} {board dead : List Int} (h : q1eb v holes board dead = true) : ∃ k : Nat, v = k /\ k <= 2 /\ q1ec k holes board dead := by
 rw [q1eb, qM, decide_eq_true_eq, decide_eq_true_eq] at h
 exact ⟨v.toNat, by omega, by omega, h.2⟩
theorem q1sk {k : Nat} {holes : List (List Int)} {board : List Int} (h : q1ec k holes board []) (h5 : board.length = 5) : ∀ x ∈ holes, q1cv (x ++ board) /\ x.length = hoOf k := by
 have hm : board ∈ q1ak holes board [] := by
  rw [q1ak, h5]
  refine qN.2 ⟨[], ?_, by simp⟩
  exact q1dd.2 ⟨List.nil_sublist _, rfl⟩
 exact (q1aj h hm).2
def q1tc (v : Int) (holes : List (List Int)) (board : List Int) : List Int × Int :=
 if q1eb v holes board [] = false then ([], 1) else if board.length = 5 then (q1o6 v.toNat holes board, 0) else ([], 2)
def paO (x : List Int × Int) : T := .tup [intsO x.1, .i x.2]
theorem Fun.paO_nil {P : Program} {f : FuncId} {rin : List T} {args : List A} {x : List Int × Int} (h : Fun P f rin args fun o r => o = [] /\ (r = paO x ∨ (x.1 = [] /\ r = .tup [.v (.slice none 0 0), .i x.2]))) : Fun P f rin args fun o r => o = [] /\ r = paO x :=
 h.le fun o r h1 => by
  obtain ⟨e, h2 | ⟨h3, h4⟩⟩ := h1
  ·exact ⟨_, .refl _, e, h2⟩
  ·refine ⟨paO x, ?_, e, rfl⟩
   rw [h4, paO, h3]; exact .tup2 (.nilArr 1) (.refl _)
theorem q1t5 (v : Int) (holes : List (List Int)) (board : List Int) (hh : holes.flatten.length <= 2000000) (hhn : holes.length <= 2000000) (hb : board.length <= 2000000) :
  Fun Tryz.prog 21 [] [.t (.i v), .t (rows holes), .t (ints board)] fun o r => o = [] /\ r = paO (q1tc v holes board) := by
 refine Fun.paO_nil ?_
 have hdl := q1t4 v holes board hh hhn hb
 refine q1sp (by simp) ?_
 simp -implicitDefEqProofs only [eR', go_sem, q1s4]
 unfold q1tc
 cases hdb : q1eb v holes board [] with
 | false =>
   rw [hdb] at hdl
   refine q006.p hdl [] rfl Tryz.call27 ?_ ?_
   ·simp -implicitDefEqProofs only [aR', go_sem]
   simp -implicitDefEqProofs only [eR', go_sem, show (!false) = true from rfl]
   simp
 | true =>
   rw [hdb] at hdl
   refine q006.p hdl [] rfl Tryz.call27 ?_ ?_
   ·simp -implicitDefEqProofs only [aR', go_sem]
   simp -implicitDefEqProofs only [eR', go_sem, show (!true) = false from rfl]
   obtain ⟨k, rfl, hk, hp⟩ := q1sm hdb
   rcases Decidable.em (board.length = 5) with h5 | h5
   ·refine ⟨fun h => by simp [h5] at h, fun _ => ?_⟩
    have hpa := q0eu k hk holes board hp.2.1 (by have := hp.1; omega) (q1sk hp h5) h5
    refine q006.res hpa [] rfl Tryz.call29 ?_ (.inl rfl) ?_
    ·simp -implicitDefEqProofs only [aR', go_sem]
    simp -implicitDefEqProofs only [cR', go_sem]
    simp [h5, paO]
   ·refine ⟨fun _ => ?_, fun h => by simp at h; omega⟩
    simp [h5]
/- Counts of boards. -/
theorem q1u8 {a b : Nat} (ha : a <= 100000) : IntKind.i64.wrap ((a : Int).tdiv (b : Int)) = ((a / b : Nat) : Int) := by
 rw [show (a : Int).tdiv (b : Int) = ((a / b : Nat) : Int) from by rw [rV (by omega)]; rfl]
 have : a / b <= a := Nat.div_le_self _ _
 generalize a / b = c at this
 exact wrap64 (by omega) (by omega)
/- The leader. -/
end
section
attribute [-go_sem] q0i5 q0id fldC lenC idxC q0ip
theorem q1z3 (m : List (List Int)) (hl : m.length <= 1000000) : Fun Tryz.prog 28 [] [.t (rows m)] fun o r => o = [] /\ r = .arr 1 (m.map ints) := by
 refine Fun.le (Q := fun o r => o = [] /\ (r = .arr 1 (m.map ints) ∨ (m = [] /\ r = .v (.slice none 0 0)))) ?_ ?_
 ·refine q1xy (by simp) ?_
  simp -implicitDefEqProofs only [q1wc, rows, go_sem]
  intro b hb
  exact ⟨fun h => .inr (by simpa using hb h), fun _ => ⟨rO.2 fun x hx => by obtain ⟨r, _, rfl⟩ := qN.1 hx; rfl, by omega⟩⟩
 ·rintro o r ⟨rfl, rfl | ⟨rfl, rfl⟩⟩
  ·exact ⟨_, .refl _, rfl, rfl⟩
  ·exact ⟨_, .nilArr 1, rfl, rfl⟩
theorem q1zh (v : Int) (holes : List (List Int)) (b : List Int) (hh : holes.flatten.length <= 2000000) (hhn : holes.length <= 2000000) (hb : b.length <= 2000000) :
  Fun Tryz.prog 6 [] [.t (.i v), .t (rows holes), .t (ints b)] fun o r => o = [] /\ r = eqO (q1xc v holes b) := by
 have hdl := q1tn v holes b hh hhn hb
 have hEq : Fun Tryz.prog 26 [] [.t (.i v), .t (rows holes), .t (ints b), .t (.v (.slice none 0 0))] fun o r => o = [] /\ r = eqO (q1eo v holes b []) := Fun.nilA (q1oy v holes b [] hh hhn hb (by simp)) rfl nil4
 refine Fun.le (Q := fun o r => o = [] /\ (r = eqO (q1xc v holes b) ∨ ((q1xc v holes b).1 = [] /\ r = .tup [.v (.slice none 0 0), .i (q1xc v holes b).2]))) ?_ ?_
 ·refine q1y5 (by simp) ?_
  simp -implicitDefEqProofs only [eR', go_sem, q1wj]
  unfold q1xc
  cases hdb : q1eb v holes b [] with
  | false =>
    rw [hdb] at hdl
    refine q006.p hdl [] rfl Tryz.call25 ?_ ?_
    ·simp -implicitDefEqProofs only [aR', go_sem]
    simp -implicitDefEqProofs only [eR', go_sem, show (!false) = true from rfl]
    simp
  | true =>
    rw [hdb] at hdl
    refine q006.p hdl [] rfl Tryz.call25 ?_ ?_
    ·simp -implicitDefEqProofs only [aR', go_sem]
    simp -implicitDefEqProofs only [eR', go_sem, show (!true) = false from rfl]
    rcases Decidable.em (b.length = 4) with h4 | h4
    ·refine ⟨fun h => by simp [h4] at h, fun _ => ?_⟩
     refine q006.res hEq [] rfl Tryz.call26 ?_ (.inl rfl) ?_
     ·simp -implicitDefEqProofs only [aR', go_sem]
     simp -implicitDefEqProofs only [cR', go_sem, eqO]
     rw [if_pos h4]; exact .inl rfl
    ·refine ⟨fun _ => ?_, fun h => by simp at h; omega⟩
     simp [h4]
 ·rintro o r ⟨rfl, rfl | ⟨h3, rfl⟩⟩
  ·exact ⟨_, .refl _, rfl, rfl⟩
  ·refine ⟨eqO (q1xc v holes b), ?_, rfl, rfl⟩
   rw [eqO, h3]; exact .tup2 (.nilArr 2) (.refl _)
theorem q1yz (holes : List (List Int)) (b : List Int) : (T.arr 1 (holes.map ints ++ [ints b])).toSh = rows (q1yy holes b) := by
 have h : holes.map ints ++ [ints b] = (q1yy holes b).map ints := by rw [q1yy, qG]; rfl
 rw [h, T.toSh, T.toShL_eq_map, List.map_map, rows]
 congr 1
theorem q1y9 (v : Int) (holes : List (List Int)) (b : List Int) (hh : holes.flatten.length <= 2000000) (hhn : holes.length <= 2000000) (hb : b.length <= 2000000) :
  Fun Tryz.prog 9 [] [.t (.i v), .t (rows holes), .t (ints b)] fun o r => o = [] /\ r = eqO (q1xc v holes b) := by
 have hdl := q1t4 v holes b hh hhn hb
 refine Fun.le (Q := fun o r => o = [] /\ (r = eqO (q1xc v holes b) ∨ ((q1xc v holes b).1 = [] /\ r = .tup [.v (.slice none 0 0), .i (q1xc v holes b).2]))) ?_ ?_
 ·refine q1xo (by simp) ?_
  simp -implicitDefEqProofs only [eR', go_sem, q1w2]
  unfold q1xc
  cases hdb : q1eb v holes b [] with
  | false =>
    rw [hdb] at hdl
    refine q006.p hdl [] rfl Tryz.call27 ?_ ?_
    ·simp -implicitDefEqProofs only [aR', go_sem]
    simp -implicitDefEqProofs only [eR', go_sem, show (!false) = true from rfl]
    simp
  | true =>
    rw [hdb] at hdl
    refine q006.p hdl [] rfl Tryz.call27 ?_ ?_
    ·simp -implicitDefEqProofs only [aR', go_sem]
    simp -implicitDefEqProofs only [eR', go_sem, show (!true) = false from rfl]
    rcases Decidable.em (b.length = 4) with h4 | h4
    ·refine ⟨fun h => by simp [h4] at h, fun _ => ?_⟩
     obtain ⟨k, rfl, hk, hp⟩ := q1sm hdb
     obtain ⟨hne, h6, hfl⟩ := q1x9 hp
     have hnc := q1ya (q1yy holes b) h6 hfl hne
     have hf1 := q1zx hk hp h4
     have hf2 := q1x3 hp h4
     have hpos := q1w1 hp h4
     have hres : q1xc k holes b = ((q1qc k holes b []).map (q1en (q1ak holes b []).length), 0) := by
      rw [q1xc, if_neg (by simp [hdb]), if_pos h4, q1eo, if_neg (by simp [hdb]), if_neg (by omega), Int.toNat_natCast]
     have hn4 := hp.2.1
     have hn2 := hp.1
     have hhok := q1x8 hp h4
     rw [if_pos h4]
     have hres2 : q1eo k holes b [] = ((q1qc k holes b []).map (q1en (q1ak holes b []).length), 0) := by
      rw [q1eo, if_neg (by simp [hdb]), if_neg (by omega), Int.toNat_natCast]
     rw [hres2]
     have hcl : ∀ c ∈ clsL (q1yy holes b), (0 <= c /\ c < 52) /\ ∀ s ∈ q1yy holes b, c ∉ s := fun c hc => ⟨(q1ws.1 hc).1, (q1ws.1 hc).2.1⟩
     have hc52 : (clsL (q1yy holes b)).length <= 52 := q1wq _ 52
     have hz := q202 (q1yy holes b)
     have hsz : szTo (q1yy holes b) 52 = (clsL (q1yy holes b)).map (szF (q1yy holes b)) := rfl
     rw [hsz] at hnc
     have hfb := q1zw k holes b _ hz (clsL (q1yy holes b))
     have hfl2 := q1zy k holes b (szF (q1yy holes b)) (clsL (q1yy holes b))
     have hcb := q1x2 hz (clsL (q1yy holes b))
     have hcs := fun i c => @q1x4 (szF (q1yy holes b)) (clsL (q1yy holes b)) i c
     have hfs : ∀ i, sumF k holes b (szF (q1yy holes b)) (clsL (q1yy holes b)) (i + 1) = addL (sumF k holes b (szF (q1yy holes b)) (clsL (q1yy holes b)) i) ((q1o6 k holes (b ++ [(clsL (q1yy holes b)).getD i 0])).map fun y => y * szF (q1yy holes b) ((clsL (q1yy holes b)).getD i 0)) := fun i => rfl
     generalize hzf : szF (q1yy holes b) = z at *
     generalize clsL (q1yy holes b) = C at *
     obtain ⟨Zl, hZl⟩ : ∃ Zl, Zl = C.map z := ⟨_, rfl⟩
     have hZlen : Zl.length = C.length := by rw [hZl, qJ]
     have hZat : ∀ i c, C[i]? = some c -> Zl[i]? = some (z c) := fun i c h => by rw [hZl, qU, h]; rfl
     rw [← hZl] at hnc
     clear hZl hsz
     generalize q1qc k holes b [] = SS at *
     generalize (q1ak holes b []).length = N at *
     refine q006.res (q1z3 holes (by omega)) [] rfl Tryz.call28 ?_ (.inl rfl) ?_
     ·simp -implicitDefEqProofs only [aR', go_sem]
     simp -implicitDefEqProofs only [cR', go_sem]
     refine ⟨by omega, ?_⟩
     have hsetsh : (T.arr 1 (List.map ints holes ++ [T.sh 1 (List.map T.i b)])).toSh = rows (q1yy holes b) := q1yz holes b
     refine q006.res hnc [33] rfl Tryz.call20 ?_ (.inr ⟨q0fh _, q0fh _, trivial, trivial⟩) ?_
     ·simp -implicitDefEqProofs only [aR', go_sem, hsetsh]
     simp -implicitDefEqProofs only [cR', go_sem, intsO]
     refine ⟨by omega, by omega, ?_⟩
     refine SemC.loopR (σ := Nat) (fun i => St.of [(0, .t (.i k)), (1, .t (rows holes)), (2, .t (ints b)), (10, .t (ints Zl)), (12, .own 91), (13, .t (.i (cntF z C i))), (43, .t (ints C)), (44, .t (.i C.length)), (45, .t (.i i))] [(91, intsO (sumF k holes b z C i))]) (fun i => i <= C.length) (fun i => C.length - i) 0 (Weak.trans (Weak.share 36 rfl) (Weak.trans (Weak.share 37001 rfl) (Weak.of _ _ [some 42] (by simp) (by simp) ?_ ⟨⟨_, rfl, ?_⟩, rfl, trivial⟩))) (by omega) fun i hi R hn hr he => ?_
     ·have e1 : ∀ l : List Int, (T.arr 1 (List.map T.i l)).toSh = T.sh 1 (List.map T.i l) := q0fi
      simp -implicitDefEqProofs only [wR', Nat.reduceBEq, Nat.reduceEqDiff, ↓reduceIte, q0rg, e1, show cntF z C 0 = 0 from rfl]
     ·rw [sumF, q0jc, intsO, List.map_replicate]; exact .refl _
     ·rcases qH i C.length with h9 | h9
      ·obtain ⟨c, hx⟩ : ∃ c, C[i]? = some c := ⟨_, qB h9⟩
       have hg : C.getD i 0 = c := by rw [qA, hx]; rfl
       obtain ⟨hc0, hcn⟩ := hcl c (qE hx)
       have hZx := hZat i c hx
       have hcb1 := hcb i hi
       have hz1 := hz c
       have hcnt : IntKind.i64.wrap (cntF z C i + z c) = cntF z C (i + 1) := by rw [hcs i c hx, wrap64 (by omega) (by omega)]
       have hS := hfs i
       rw [hg] at hS
       have hsb := hfb i
       have hsl := hfl2 i
       have hpl := q1ow k holes (b ++ [c])
       have hpb : ∀ x ∈ q1o6 k holes (b ++ [c]), 0 <= x /\ x <= 48 := by rw [q1o6]; exact q19z _ _ _
       have hparts := q0eu k hk holes (b ++ [c]) hn4 (by omega) (hhok c hc0 hcn) (by rw [qD, h4]; rfl)
       have hnext : sumF k holes b z C (i + 1) = addL (sumF k holes b z C i) ((q1o6 k holes (b ++ [c])).map fun y => y * z c) := hS
       have hparts2 : Fun Tryz.prog 29 [] [.t (.i k), .t (rows holes), .t (.sh 1 (List.map T.i b ++ [T.i c]))] fun o r => o = [] /\ r = intsO (q1o6 k holes (b ++ [c])) := by
        have e : ints (b ++ [c]) = .sh 1 (List.map T.i b ++ [T.i c]) := by rw [ints, qG]; rfl
        rw [← e]; exact hparts
       generalize sumF k holes b z C i = S0 at *
       generalize q1o6 k holes (b ++ [c]) = D at *
       have hshd : (T.arr 1 (List.map T.i b ++ [T.i c])).toSh = .sh 1 (List.map T.i b ++ [T.i c]) := by
        have := q0fi (b ++ [c])
        rwa [intsO, ints, qG] at this
       simp -implicitDefEqProofs only [eR', go_sem, hx, hZx, hZlen, hcnt, decide_eq_true (show (i : Int) < (C.length : Int) by omega)]
       refine ⟨by omega, by omega, by omega, by omega, by omega, by omega, ?_⟩
       refine q006.res (q0rq b (by omega)) [] rfl Tryz.call30 ?_ (.inl rfl) ?_
       ·simp -implicitDefEqProofs only [aR', go_sem]
       simp -implicitDefEqProofs only [cR', go_sem, intsO]
       refine ⟨by omega, ?_⟩
       refine q006.res hparts2 [62] rfl Tryz.call29 ?_ (.inr (q0fh _)) ?_
       ·simp -implicitDefEqProofs only [aR', go_sem, hshd]
       simp -implicitDefEqProofs only [cR', go_sem, intsO]
       refine SemC.loopR (σ := Nat) (fun j => St.of [(0, .t (.i k)), (1, .t (rows holes)), (2, .t (ints b)), (10, .t (ints Zl)), (12, .own 91), (13, .t (.i (cntF z C (i + 1)))), (14, .t (.i i)), (43, .t (ints C)), (44, .t (.i C.length)), (45, .t (.i i)), (63, .own 92), (64, .t (.i D.length)), (65, .t (.i j))] [(91, intsO (adTo S0 (D.map fun y => y * z c) j)), (92, intsO D)]) (fun j => j <= D.length) (fun j => D.length - j) 0 (Weak.of _ _ [some 91, some 63] (by simp) (by simp) ?_ ⟨⟨_, rfl, by rw [q19p]; exact .refl _⟩, rfl, ⟨_, rfl, .refl _⟩, rfl, trivial⟩) (by omega) fun j hj R2 hn2 hr2 he2 => ?_
       ·simp -implicitDefEqProofs only [wR', Nat.reduceBEq, Nat.reduceEqDiff, ↓reduceIte]
       ·have hal : (adTo S0 (D.map fun y => y * z c) j).length = holes.length := by rw [adTo, q1qk, hsl]
        rcases qH j D.length with h8 | h8
        ·obtain ⟨y, hy⟩ : ∃ y, D[j]? = some y := ⟨_, qB h8⟩
         have hyb := hpb y (qE hy)
         have hset := q19o S0 (D.map fun y => y * z c) j
         rw [q1yo, show D.getD j 0 = y by rw [qA, hy]; rfl] at hset
         have hP : (adTo S0 (D.map fun y => y * z c) j)[j]? = some (S0.getD j 0) := by rw [adTo, q1qj (by omega), if_neg (by omega)]
         have hSb : 0 <= S0.getD j 0 /\ S0.getD j 0 <= 1152 * (i : Int) := by
          obtain ⟨w, hw⟩ : ∃ w, S0[j]? = some w := ⟨_, qB (by omega)⟩
          rw [qA, hw]; exact hsb w (qE hw)
         have hm0 : 0 <= y * z c := Int.mul_nonneg hyb.1 hz1.1
         have hm1 : y * z c <= 48 * 24 := Int.mul_le_mul hyb.2 hz1.2 hz1.1 (by decide)
         have hw1 : IntKind.i64.wrap (y * z c) = y * z c := wrap64 (by omega) (by omega)
         have hw2 : IntKind.i64.wrap (S0.getD j 0 + y * z c) = S0.getD j 0 + y * z c := wrap64 (by omega) (by omega)
         simp -implicitDefEqProofs only [eR', go_sem, intsO, hy, hP, hal, hZx, hZlen, hw1, hw2, decide_eq_true (show (j : Int) < (D.length : Int) by omega)]
         refine ⟨by omega, by omega, by omega, by omega, by omega, by omega, by omega, by omega, by omega, by omega, by omega, by omega, ?_⟩
         refine hn2 _ (j + 1) (Weak.of _ _ [some 91, some 92] (by simp) (by simp) ?_ ⟨⟨_, rfl, ?_⟩, rfl, ⟨_, rfl, .refl _⟩, rfl, trivial⟩) (by omega) (by omega)
         ·simp -implicitDefEqProofs only [wR', Nat.reduceBEq, Nat.reduceEqDiff, ↓reduceIte, q0lb h8 (by omega)]
         ·rw [← hset, intsO, List.map_set]; exact .refl _
        ·simp -implicitDefEqProofs only [eR', go_sem, decide_eq_false (show ¬ (j : Int) < (D.length : Int) by omega)]
         refine he2 _ _ ?_
         simp -implicitDefEqProofs only [eR', go_sem]
         refine hn _ (i + 1) (Weak.of _ _ [some 91] (by simp) (by simp) ?_ ⟨⟨_, rfl, ?_⟩, rfl, trivial⟩) (by omega) (by omega)
         ·simp -implicitDefEqProofs only [wR', Nat.reduceBEq, Nat.reduceEqDiff, ↓reduceIte, q0lb h9 (by omega)]
         ·rw [show j = S0.length by omega, q19n, hnext]; exact .refl _
      ·simp -implicitDefEqProofs only [eR', go_sem, decide_eq_false (show ¬ (i : Int) < (C.length : Int) by omega)]
       refine he _ _ ?_
       have e : i = C.length := by omega
       subst e
       rw [hf1, hf2]
       have hsb : ∀ x ∈ SS, 0 <= x /\ x <= 1152 * (C.length : Int) := by rw [← hf1]; exact hfb _
       have hsl : SS.length = holes.length := by rw [← hf1]; exact hfl2 _
       have hN := hcb C.length (qR _)
       rw [hf2] at hN
       have hmul : IntKind.i64.wrap (24 * (N : Int)) = 24 * (N : Int) := wrap64 (by omega) (by omega)
       have hml : (SS.map (q1en N)).length = holes.length := by rw [qJ, hsl]
       clear hf1 hfb hfl2 hcb hcs hfs
       simp -implicitDefEqProofs only [eR', go_sem, intsO]
       refine ⟨by omega, by omega, ?_⟩
       refine SemC.loopR (σ := Nat) (fun i => St.of [(13, .t (.i N)), (18, .own 83), (87, .own 76), (88, .t (.i SS.length)), (89, .t (.i i))] [(76, intsO SS), (83, .arr 2 (ratC (q1nn (SS.map (q1en N)) i)))]) (fun i => i <= SS.length) (fun i => SS.length - i) 0 (Weak.o _ _ [some 91, some 86] ?_ ?_) (by omega) fun i hi R hn' hr he => ?_
       ·simp -implicitDefEqProofs only [wR', Nat.reduceBEq, Nat.reduceEqDiff, ↓reduceIte]
       ·exact ⟨⟨_, rfl, .refl _⟩, rfl, ⟨_, rfl, by rw [q1nd, ← hml]; simp only [q1nn, List.take_zero, List.nil_append, Nat.sub_zero]; exact .refl _⟩, rfl, trivial⟩
       ·have hrl := q1np (SS.map (q1en N)) i (by omega)
        rcases qH i SS.length with h9 | h9
        ·obtain ⟨x, hx⟩ : ∃ x, SS[i]? = some x := ⟨_, qB h9⟩
         have hxb := hsb x (qE hx)
         have hred := q1jo x (24 * (N : Int)) (by omega) (by omega) (by omega) (by omega)
         simp -implicitDefEqProofs only [eR', go_sem, intsO, hx, hmul, decide_eq_true (show (i : Int) < (SS.length : Int) by omega)]
         refine ⟨by omega, by omega, by omega, ?_⟩
         refine q006.res hred [] rfl Tryz.call31 ?_ (.inl rfl) ?_
         ·simp -implicitDefEqProofs only [aR', go_sem]
         simp -implicitDefEqProofs only [cR', go_sem, redT, q0p1]
         refine ⟨by omega, by rw [q0p0]; omega, by rw [q0p0]; omega, ?_⟩
         refine hn' _ (i + 1) (Weak.o _ _ [some 76, some 83] ?_ ?_) (by omega) (by omega)
         ·simp -implicitDefEqProofs only [wR', Nat.reduceBEq, Nat.reduceEqDiff, ↓reduceIte, q0lb h9 (by omega)]
         ·refine ⟨⟨_, rfl, .refl _⟩, rfl, ⟨_, rfl, ?_⟩, rfl, trivial⟩
          have hxr : (SS.map (q1en N))[i]? = some (q1en N x) := by rw [qU, hx]; rfl
          (try simp only [List.cons_append, List.nil_append, qW])
          have := q1ne (l := q1nn (SS.map (q1en N)) i) (i := i) (q1en N x) (by omega)
          simp only [qW, List.cons_append, List.nil_append] at this
          rw [q1nq hxr] at this
          rw [← this]; exact .refl _
        ·simp -implicitDefEqProofs only [eR', go_sem, intsO, decide_eq_false (show ¬ (i : Int) < (SS.length : Int) by omega)]
         refine he _ _ ?_
         rw [show i = (SS.map (q1en N)).length by omega, q1no]
         simp -implicitDefEqProofs only [eR', go_sem, q0p1, eqO]
    ·refine ⟨fun _ => ?_, fun h => by simp at h; omega⟩
     simp [h4]
 ·rintro o r ⟨rfl, rfl | ⟨h3, rfl⟩⟩
  ·exact ⟨_, .refl _, rfl, rfl⟩
  ·refine ⟨eqO (q1xc v holes b), ?_, rfl, rfl⟩
   rw [eqO, h3]; exact .tup2 (.nilArr 2) (.refl _)
theorem q1xd (v : Int) (holes : List (List Int)) (b : List Int) : (q1xc v holes b).1.length <= 4 := by
 unfold q1xc
 split
 ·simp
 ·split
  ·exact q1ep v holes b []
  ·simp
end
end Go.Ab

/- The bridge, part 5: bytes. -/
namespace Go.Ab

def bytes (cs : List Int) : T := .sh 1 (cs.map fun x => .v (.int .u8 x))
def q161 (cs : List Int) : Prop := ∀ c ∈ cs, 0 <= c /\ c <= 255
def q168 : Ty := .sl 1 (.int .u8)
theorem wf8 {n : Int} (h : (Lit.int .u8 n).wf = true) : 0 <= n /\ n <= 255 := by
 simp [Lit.wf, IntKind.min, IntKind.max, IntKind.signed, IntKind.bits] at h
 omega
theorem q166 : ∀ {xs : List (List T)}, (∀ x ∈ xs, x.length = 1 /\ (Ty.int .u8).wt x) -> ∃ l : List Int, xs.flatten = (l.map fun x => T.v (.int .u8 x)) /\ l.length = xs.length /\ q161 l
 | [], _ => ⟨[], rfl, rfl, fun x hx => by simp at hx⟩
 | x :: xs, h => by
   obtain ⟨l, hl, hlen, hf⟩ := q166 (xs := xs) fun y hy => h y (by simp [hy])
   obtain ⟨_, n, rfl, hw⟩ := h x (by simp)
   refine ⟨n :: l, by simp [hl], by simp [hlen], fun y hy => ?_⟩
   rcases qO.1 hy with rfl | hy
   ·exact wf8 hw
   ·exact hf y hy
theorem q169 {x : T} (h : q168.wt [x]) : ∃ l : List Int, x = bytes l /\ l.length <= 9223372036854775807 /\ q161 l := by
 obtain ⟨xs, hx, hlen, hall⟩ := h
 obtain ⟨l, hl, hll, hf⟩ := q166 hall
 simp only [List.cons.injEq, and_true] at hx
 exact ⟨l, by rw [hx, hl]; rfl, by rw [hll]; exact hlen, hf⟩
end Go.Ab

/- Contracts: the source of drawn numbers. -/
namespace Go.Ab
open Go.Proofs

def srcT (cs : List Int) (a : Nat × Int) : T := .box [bytes cs, .i a.1, .i a.2]
def q0qx (a : Nat × Int) : Prop := 0 <= a.2 /\ a.2 < 2147483647 /\ a.1 <= 1000000000000
def q0za (l : List Int) : Int := l.foldl (fun s c => (s * 61 + c) % 2147483647) 45007
theorem q0zc (l : List Int) (c : Int) : q0za (l ++ [c]) = (q0za l * 61 + c) % 2147483647 := by simp [q0za, List.foldl_append]
theorem q0zb (l : List Int) : 0 <= q0za l /\ q0za l < 2147483647 := by
 rcases List.eq_nil_or_concat l with rfl | ⟨l, c, rfl⟩
 ·decide
 ·rw [List.concat_eq_append, q0zc]
  omega
def q10m (cs : List Int) (a : Nat × Int) (n : Int) : Int × (Nat × Int) :=
 if n <= 1 then (0, a) else
 let s := (a.2 * 48271 + 29) % 2147483647
 if a.1 < cs.length then ((if n <= 256 /\ (a.1 + 1) % 2 = 0 then cs.getD a.1 0 else s / 31 + cs.getD a.1 0) % n, (a.1 + 1, s)) else ((s / 31) % n, (a.1, s))
theorem q10n {cs : List Int} {a : Nat × Int} {n : Int} (hn : 1 <= n) : 0 <= (q10m cs a n).1 /\ (q10m cs a n).1 < n := by
 unfold q10m
 split
 ·omega
 ·split
  ·exact ⟨Int.emod_nonneg _ (by omega), Int.emod_lt_of_pos _ (by omega)⟩
  ·exact ⟨Int.emod_nonneg _ (by omega), Int.emod_lt_of_pos _ (by omega)⟩

theorem q11z (cs : List Int) (hc : q161 cs) (hl : cs.length <= 1000000000000) : Fun Tryz.prog 34 [] [.t (bytes cs)] fun o r => o = [] /\ r = srcT cs (0, q0za (cs.take 64)) := by
 refine q0zm (by simp) ?_
 simp -implicitDefEqProofs only [eR', go_sem, q0yh, bytes]
 refine SemC.loopR (σ := Nat) (fun i => St.of [(0, .t (bytes cs)), (3, .own 7), (4, .t (.i i))] [(7, .box [bytes cs, .i 0, .i (q0za (cs.take i))])]) (fun i => i <= 64 /\ i <= cs.length) (fun i => 64 - i) 0 (Weak.o _ _ [some 7] ?_ ?_) ⟨by omega, by omega⟩ fun i hi R hn hr he => ?_
 ·simp -implicitDefEqProofs only [wR', Nat.reduceBEq, Nat.reduceEqDiff, ↓reduceIte, bytes]
 ·exact ⟨⟨_, rfl, .refl _⟩, rfl, trivial⟩
 ·simp -implicitDefEqProofs only [eR', go_sem, bytes]
  refine ⟨fun h1 => ⟨fun h2 => ⟨by omega, by omega, by omega, fun c hcc => ⟨by decide, ?_⟩⟩, fun h2 => he _ _ ?_⟩, fun h1 => he _ _ ?_⟩
  ·have hb := hc c (qE hcc)
   have hf := q0zb (cs.take i)
   have e := q0zc (cs.take i) c
   rw [← q0uj hcc] at e
   have hw : (IntKind.i64.wrap (IntKind.i64.wrap (q0za (cs.take i) * 61) + IntKind.i64.wrap c)).tmod 2147483647 = q0za (cs.take (i + 1)) := by
    rw [wrap64 (n := c) (by omega) (by omega), wrap64 (n := q0za (cs.take i) * 61) (by omega) (by omega), wrap64 (n := q0za (cs.take i) * 61 + c) (by omega) (by omega), rP (by omega), e]
   rw [hw]
   refine hn _ (i + 1) (Weak.o _ _ [some 7] ?_ ?_) ⟨by omega, by omega⟩ (by omega)
   ·simp -implicitDefEqProofs only [wR', Nat.reduceBEq, Nat.reduceEqDiff, ↓reduceIte, bytes, q0lb (by omega : i < cs.length) (by omega)]
   ·exact ⟨⟨_, rfl, .refl _⟩, rfl, trivial⟩
  ·simp -implicitDefEqProofs only [eR', go_sem, srcT, bytes]
   rw [show i = 64 by omega]; rfl
  ·simp -implicitDefEqProofs only [eR', go_sem, srcT, bytes]
   have e : cs.take i = cs.take 64 := by rw [qQ (by omega), qQ (by omega)]
   rw [e]; rfl
set_option maxRecDepth 10000 in
theorem q120 (cs : List Int) (hc : q161 cs) (hl : cs.length <= 100000000000) (a : Nat × Int) (ha : q0qx a) (n : Int) (hn : n <= 1000000000000) : Fun Tryz.prog 57 [srcT cs a] [.own 1000000000, .t (.i n)] fun o r => o = [srcT cs (q10m cs a n).2] /\ r = .i (q10m cs a n).1 := by
 refine q0zn (by simp) ?_
 simp -implicitDefEqProofs only [eR', go_sem, q0yi, srcT, bytes]
 obtain ⟨a1, a2⟩ := a
 obtain ⟨h1, h2, h3⟩ := ha
 simp only [] at h1 h2 h3
 have hs : (IntKind.i64.wrap (IntKind.i64.wrap (a2 * 48271) + 29)).tmod 2147483647 = (a2 * 48271 + 29) % 2147483647 := by
  rw [wrap64 (n := a2 * 48271) (by omega) (by omega), wrap64 (n := a2 * 48271 + 29) (by omega) (by omega), rP (by omega)]
 have hs1 := Int.emod_nonneg (a2 * 48271 + 29) (show (2147483647 : Int) ≠ 0 by decide)
 have hs2 := Int.emod_lt_of_pos (a2 * 48271 + 29) (show (0 : Int) < 2147483647 by decide)
 have hw1 : IntKind.i64.wrap ((a1 : Int) + 1) = ((a1 + 1 : Nat) : Int) := by rw [wrap64 (by omega) (by omega)]; omega
 have hw2 : IntKind.i64.wrap (((a1 + 1 : Nat) : Int) - 1) = (a1 : Int) := by rw [wrap64 (by omega) (by omega)]; omega
 simp only [hs, hw1, hw2, Int.toNat_natCast]
 have hnx : q10m cs (a1, a2) n = if n <= 1 then (0, (a1, a2)) else if a1 < cs.length then ((if n <= 256 /\ (a1 + 1) % 2 = 0 then cs.getD a1 0 else (a2 * 48271 + 29) % 2147483647 / 31 + cs.getD a1 0) % n, (a1 + 1, (a2 * 48271 + 29) % 2147483647)) else (((a2 * 48271 + 29) % 2147483647 / 31) % n, (a1, (a2 * 48271 + 29) % 2147483647)) := rfl
 generalize (a2 * 48271 + 29) % 2147483647 = s at hs1 hs2 hnx ⊢
 have hq : IntKind.i64.wrap (s.tdiv 31) = s / 31 := by rw [rV hs1, wrap64 (by omega) (by omega)]
 have hq' : s.tdiv 31 = s / 31 := rV hs1
 have hqs : IntKind.i64.wrap (s / 31) = s / 31 := wrap64 (by omega) (by omega)
 rw [hnx]
 by_cases hn1 : n <= 1
 ·simp only [if_pos hn1]
  exact ⟨fun _ => by simp, fun h => absurd hn1 h⟩
 ·simp only [if_neg hn1]
  refine ⟨fun h => absurd h hn1, fun _ => ⟨by decide, by decide, fun hl1 => ?_, fun hl1 => ?_⟩⟩
  ·have hl2 : a1 < cs.length := by omega
   obtain ⟨c, hcc⟩ : ∃ c, cs[a1]? = some c := ⟨_, qB hl2⟩
   have hcb := hc c (qE hcc)
   have hg : cs.getD a1 0 = c := by rw [qA, hcc]; rfl
   have hwc : IntKind.i64.wrap c = c := wrap64 (by omega) (by omega)
   simp only [if_pos hl2, hcc, hg, Option.some.injEq, forall_eq', hwc]
   have hws : IntKind.i64.wrap (s / 31 + c) = s / 31 + c := wrap64 (by omega) (by omega)
   simp only [hq', hqs, hws]
   refine ⟨by omega, by omega, by omega, fun h256 => ⟨by decide, fun he => ⟨by omega, by omega, by omega, by omega, by first | trivial | rfl, ?_⟩, fun he => ⟨by omega, by first | trivial | rfl, ?_⟩⟩, fun h256 => ⟨by omega, by first | trivial | rfl, ?_⟩⟩
   ·rw [beq_iff_eq, rP (by omega)] at he
    rw [if_pos ⟨h256, by omega⟩, rP (by omega)]
   ·rw [beq_eq_false_iff_ne, rP (by omega)] at he
    rw [if_neg (by omega), rP (by omega)]
   ·rw [if_neg (by omega), rP (by omega)]
  ·have hl2 : ¬ a1 < cs.length := by omega
   simp only [if_neg hl2, hq', hqs]
   refine ⟨by omega, by first | trivial | rfl, ?_⟩
   rw [rP (by omega)]

theorem q10o {cs : List Int} {a : Nat × Int} (hl : cs.length <= 100000000000) (ha : q0qx a) (n : Int) : q0qx (q10m cs a n).2 := by
 obtain ⟨h1, h2, h3⟩ := ha
 have hs1 := Int.emod_nonneg (a.2 * 48271 + 29) (show (2147483647 : Int) ≠ 0 by decide)
 have hs2 := Int.emod_lt_of_pos (a.2 * 48271 + 29) (show (0 : Int) < 2147483647 by decide)
 unfold q10m
 split
 ·exact ⟨h1, h2, h3⟩
 ·split
  ·exact ⟨hs1, hs2, by show a.1 + 1 <= _; omega⟩
  ·exact ⟨hs1, hs2, h3⟩
theorem q11l (l : List Int) : q0qx (0, q0za l) := ⟨(q0zb l).1, (q0zb l).2, Nat.zero_le _⟩
def q115 (cs : List Int) (a : Nat × Int) (l : List Int) : Int × (Nat × Int) := (l.getD (q10m cs a l.length).1.toNat 0, (q10m cs a l.length).2)
theorem q1tf {cs : List Int} {a : Nat × Int} {l : List Int} (h : 1 <= l.length) : (q115 cs a l).1 ∈ l := by
 have hb := q10n (cs := cs) (a := a) (show (1 : Int) <= l.length by omega)
 unfold q115
 rw [qA, qB (show (q10m cs a l.length).1.toNat < l.length by omega)]
 exact rJ _
theorem q10p (cs : List Int) (hc : q161 cs) (hl : cs.length <= 100000000000) (a : Nat × Int) (ha : q0qx a) (n : Int) (hn : n <= 1000000000000) : Fun Tryz.prog 57 [.box [bytes cs, .i a.1, .i a.2]] [.own 1000000000, .t (.i n)] fun o r => o = [.box [bytes cs, .i (q10m cs a n).2.1, .i (q10m cs a n).2.2]] /\ r = .i (q10m cs a n).1 := q120 cs hc hl a ha n hn
theorem q116 {cs : List Int} {a : Nat × Int} (hl : cs.length <= 100000000000) (ha : q0qx a) (l : List Int) : q0qx (q115 cs a l).2 := q10o hl ha _
theorem q117 (cs : List Int) (hc : q161 cs) (hl : cs.length <= 100000000000) (a : Nat × Int) (ha : q0qx a) (l : List Int) (h1 : 1 <= l.length) (h2 : l.length <= 1000000) : Fun Tryz.prog 56 [.box [bytes cs, .i a.1, .i a.2], intsO l] [.own 1000000000, .own 1000000001] fun o r => o = [.box [bytes cs, .i (q115 cs a l).2.1, .i (q115 cs a l).2.2], intsO l] /\ r = .i (q115 cs a l).1 := by
 have hb := q10n (cs := cs) (a := a) (show (1 : Int) <= l.length by omega)
 obtain ⟨x, hx⟩ : ∃ x, l[(q10m cs a l.length).1.toNat]? = some x := ⟨_, qB (show (q10m cs a l.length).1.toNat < l.length by omega)⟩
 have hg : (q115 cs a l).1 = x := by rw [q115, qA, hx]; rfl
 refine q0zo (by simp) ?_
 simp -implicitDefEqProofs only [eR', go_sem, q0yj, intsO]
 refine q006.ref (q10p cs hc hl a ha l.length (by omega)) [1000000000] [] rfl Tryz.call57 (by simp) ?_ (by simp) ?_ (.inl rfl) ?_
 ·simp -implicitDefEqProofs only [sR', Nat.reduceEqDiff, ↓reduceIte]
 ·simp -implicitDefEqProofs only [aR', go_sem]
 simp -implicitDefEqProofs only [cR', go_sem]
 refine ⟨by omega, by omega, by omega, fun y hy => ?_⟩
 rw [hx] at hy; cases hy
 exact ⟨rfl, by rw [hg]⟩

def q20n : CC :=
 (.seq (.reg [.o (.move 2 (cb false))])
 ((.seq (.seq (.reg [mv 21 0,.o (.call (some 22) (cf 17) [(sl 21)])])
 ((.cond (sl 22) (.seq (.reg [.o (.move 2 (cb true))])
 (.ret))
 .skip)))
 ((.seq (.reg [mv 24 0,.o (.call (some 25) (cf 18) [(sl 24)]),mv 23 25,.o (.extract 26 (sl 23) 0),.o (.extract 27 (sl 23) 1),.o (.extract 28 (sl 23) 2),mv 3 26,mv 4 27,mv 5 28])
 ((.seq (.reg [mv 30 3,mv 31 4,mv 32 5,.o (.call (some 33) (cf 9) [(sl 30), (sl 31), (sl 32)]),mv 29 33,.o (.extract 34 (sl 29) 0),.o (.extract 35 (sl 29) 1),mv 6 34,mv 7 35])
 ((.seq (.reg [mv 37 3,mv 38 4,mv 39 5,.o (.call (some 40) (cf 6) [(sl 37), (sl 38), (sl 39)]),mv 36 40,.o (.extract 41 (sl 36) 0),.o (.extract 42 (sl 36) 1),mv 8 41,mv 9 42])
 ((.seq (.seq (.reg [mv 43 7,mv 44 9,.o (.bin 45 .neq (sl 43) (sl 44)),mv 46 45,.g 46 false (some 47) (.move 47 (sl 6)),.g 46 false (some 48) (.move 48 (sl 8)),.g 46 false (some 49) (.call (some 49) (cf 19) [(sl 47), (sl 48)]),.g 46 false (some 50) (.un 50 .not (sl 49)),.o (.pick 51 (sl 46) (cb true) (sl 50))])
 ((.cond (sl 51) (.seq (.reg [.o (.move 2 (cb false))])
 (.ret))
 .skip)))
 ((.seq (.seq (.reg [mv 52 7,.o (.bin 53 .neq (sl 52) (ci 0))])
 ((.cond (sl 53) (.seq (.reg [.o (.move 2 (cb true))])
 (.ret))
 .skip)))
 ((.seq (.reg [.o (.bslice 55 1 0 []),mv 56 4,.o (.app 57 1 24 (sl 55) (sl 56)),mv 58 5,.o (.bslice 59 1 1 [(0, (sl 58))]),.o (.app 60 1 24 (sl 57) (sl 59)),.o (.call (some 61) (cf 20) [(sl 60)]),mv 54 61,.o (.extract 62 (sl 54) 0),.o (.extract 63 (sl 54) 1),.o (.extract 64 (sl 54) 2),mv 10 62,mv 11 63,mv 12 64])
 ((.seq (.seq (.reg [mv 65 12,.o (.bin 66 .neq (sl 65) (ci 0)),mv 67 66,.g 67 false (some 68) (.move 68 (sl 10)),.g 67 false (some 69) (.lenS 69 (sl 68)),.g 67 false (some 70) (.move 70 (sl 11)),.g 67 false (some 71) (.lenS 71 (sl 70)),.g 67 false (some 72) (.bin 72 .neq (sl 69) (sl 71)),.o (.pick 73 (sl 67) (cb true) (sl 72))])
 ((.cond (sl 73) (.seq (.reg [.o (.move 2 (cb false))])
 (.ret))
 .skip)))
 ((.seq (.reg [mv 74 4,.o (.lenS 75 (sl 74)),.o (.make 76 [.v (.int .i64 0)] 8 (sl 75) (sl 75)),mv 13 76])
 ((.seq (.seq (.reg [.o (.move 14 (ci 0))])
 ((.block 0 (.loop (.seq (.seq (.reg [mv 77 14,mv 78 10,.o (.lenS 79 (sl 78)),.o (.bin 80 .lss (sl 77) (sl 79))])
 ((.cond (sl 80) .skip
 (.exit 0))))
 ((.seq (.block 1 (.seq (.draw [86, 93, 95] [(.r false [86, 88, 94], mv 84 3),(.r false [86, 88, 94], mv 85 4),(kN, .o (.bslice 86 1 0 [])),(.r false [86], mv 87 5),(.h (some [86]) [], .o (.app 88 1 8 (sl 86) (sl 87))),(.r false [86, 88], mv 89 10),(.r false [86, 88], mv 90 14),(.r false [86, 88], ix 91 89 90),(.r false [86, 88], l1 92 91),(kN, .o (.bslice 93 1 1 [(0, (sl 92))])),(.h (some [88]) [], .o (.app 94 1 8 (sl 88) (sl 93))),(.c false [], .o (.call (some 95) (cf 21) [(sl 84), (sl 85), (sl 94)])),kr (mv 83 95),kr (.o (.extract 96 (sl 83) 0)),kr (.o (.extract 97 (sl 83) 1)),kr (mv 15 96),kr (mv 16 97)])
 ((.seq (.seq (.reg [mv 98 16,.o (.bin 99 .neq (sl 98) (ci 0)),mv 100 99,.g 100 false (some 101) (.move 101 (sl 15)),.g 100 false (some 102) (.lenS 102 (sl 101)),.g 100 false (some 103) (.move 103 (sl 13)),.g 100 false (some 104) (.lenS 104 (sl 103)),.g 100 false (some 105) (.bin 105 .neq (sl 102) (sl 104)),.o (.pick 106 (sl 100) (cb true) (sl 105))])
 ((.cond (sl 106) (.seq (.reg [.o (.move 2 (cb false))])
 (.ret))
 .skip)))
 ((.seq (.reg [.o (.move 17 (ci 0))])
 ((.block 2 (.loop (.seq (.seq (.reg [mv 107 17,mv 108 15,.o (.lenS 109 (sl 108)),.o (.bin 110 .lss (sl 107) (sl 109))])
 ((.cond (sl 110) .skip
 (.exit 2))))
 ((.seq (.block 3 (.draw [] [kr (mv 113 13),kr (mv 114 17),kr (mv 115 13),kr (mv 116 17),kr (ix 117 115 116),kr (l1 118 117),kr (mv 119 11),kr (mv 120 14),kr (ix 121 119 120),kr (l1 122 121),kr (mv 123 15),kr (mv 124 17),kr (ix 125 123 124),kr (l1 126 125),kr (.o (.bin 127 .mul (sl 122) (sl 126))),kr (.o (.bin 128 .add (sl 118) (sl 127))),kr (ix 129 113 114),(kH, .o (.store 1 (sl 129) (sl 128)))]))
 ((.reg [mv 111 17,.o (.bin 112 .add (sl 111) (ci 1)),mv 17 112]))))))))))))))
 ((.reg [mv 81 14,.o (.bin 82 .add (sl 81) (ci 1)),mv 14 82])))))))))
 ((.seq (.seq (.reg [.o (.move 18 (ci 0))])
 ((.block 4 (.loop (.seq (.seq (.reg [mv 130 18,mv 131 13,.o (.lenS 132 (sl 131)),.o (.bin 133 .lss (sl 130) (sl 132))])
 ((.cond (sl 133) .skip
 (.exit 4))))
 ((.seq (.block 5 (.seq (.draw [19] [kr (mv 137 13),kr (mv 138 18),kr (ix 139 137 138),kr (l1 140 139),kr (mv 141 11),kr (.o (.call (some 142) (cf 23) [(sl 141)])),kr (.o (.bin 143 .mul (ci 24) (sl 142))),kr (.o (.call (some 144) (cf 22) [(sl 140), (sl 143)])),kr (mv 136 144),kr (.o (.extract 145 (sl 136) 0)),(kE, .o (.extract 146 (sl 136) 1)),(kN, .o (.alloc 19 [.v (.int .i64 0), .v (.int .i64 0)])),(kH, .o (.store 2 (sl 19) (sl 145))),kr (mv 20 146)])
 ((.seq (.draw [] [kr (mv 147 20),kr (.o (.bin 148 .neq (sl 147) (ci 0))),kr (mv 149 148),(kR, .g 149 false (some 150) (.loadN 150 2 (sl 19))),(kR, .g 149 false (some 151) (.move 151 (sl 6))),(kR, .g 149 false (some 152) (.move 152 (sl 18))),(kR, .g 149 false (some 153) (.idx 153 2 (sl 151) (sl 152))),(kR, .g 149 false (some 154) (.loadN 154 2 (sl 153))),(kR, .g 149 false (some 155) (.beqS 155 true 2 (sl 150) (sl 154))),kr (.o (.pick 156 (sl 149) (cb true) (sl 155)))])
 ((.cond (sl 156) (.seq (.reg [.o (.move 2 (cb false))])
 (.ret))
 .skip))))))
 ((.reg [mv 134 18,.o (.bin 135 .add (sl 134) (ci 1)),mv 18 135])))))))))
 ((.seq (.reg [.o (.move 2 (cb true))])
 (.ret))))))))))))))))))))))))))
theorem q20s {rin args Q} (ha : args.length <= 157) (h : fW 157 q20n [.tmp 2] rin args Q) : Fun Tryz.prog 4 rin args Q :=
 Fun.of (H := ⟨[(17, 0, .r false [86, 88, 94]), (17, 1, .r false [86, 88, 94]), (17, 4, .h (some [86]) []), (17, 5, .r false [86, 88]), (17, 6, .r false [86, 88]), (17, 7, .r false [86, 88]), (17, 8, .r false [86, 88]), (17, 10, .h (some [88]) [])], []⟩) Tryz.func4 rfl rfl rfl (by kernel_rfl) ha (by decide) h

def q1sd : CC :=
 (.seq (.reg [.o (.move 6 (cv (.slice none 0 0)))])
 ((.seq (.reg [mv 10 2,.o (.call (some 11) (cf 88) [(sl 10)]),mv 7 11])
 ((.seq (.reg [.o (.bslice 12 1 0 []),mv 8 12])
 ((.seq (.block 0 (.loop (.seq (.seq (.reg [mv 13 1,.o (.bin 14 .gtr (sl 13) (ci 0)),mv 15 14,.g 15 true (some 16) (.move 16 (sl 7)),.g 15 true (some 17) (.lenS 17 (sl 16)),.g 15 true (some 18) (.bin 18 .gtr (sl 17) (ci 0)),.o (.pick 19 (sl 15) (sl 18) (cb false))])
 ((.cond (sl 19) .skip
 (.exit 0))))
 ((.seq (.block 1 (.seq (.reg [mv 22 0,mv 23 7,.o (.lenS 24 (sl 23)),.o (.call (some 25) (cf 57) [(sl 22), (sl 24)]),mv 9 25])
 ((.seq (.reg [mv 26 8,mv 27 7,mv 28 9,ix 29 27 28,l1 30 29,.o (.bslice 31 1 1 [(0, (sl 30))]),.o (.app 32 1 8 (sl 26) (sl 31)),mv 8 32])
 ((.draw [33] [(kN, .o (.bslice 33 1 0 [])),(.r false [33], mv 34 7),(.r false [33], mv 35 9),(.r false [33], .o (.slc 36 1 (sl 34) none (some (sl 35)))),(.h (some [33]) [], .o (.app 37 1 8 (sl 33) (sl 36))),(.r false [33, 37], mv 38 7),(.r false [33, 37], mv 39 9),(.r false [33, 37], .o (.bin 40 .add (sl 39) (ci 1))),(.r false [33, 37], .o (.slc 41 1 (sl 38) (some (sl 40)) none)),(kH, .o (.app 42 1 8 (sl 37) (sl 41))),kr (mv 7 42)]))))))
 ((.reg [mv 20 1,.o (.bin 21 .sub (sl 20) (ci 1)),mv 1 21])))))))
 ((.seq (.reg [mv 43 8,mv 6 43])
 (.ret))))))))))
theorem q1sy {rin args Q} (ha : args.length <= 44) (h : fW 44 q1sd [.tmp 6] rin args Q) : Fun Tryz.prog 58 rin args Q :=
 Fun.of (H := ⟨[(7, 5, .r false [33, 37]), (7, 6, .r false [33, 37]), (7, 7, .r false [33, 37]), (7, 8, .r false [33, 37]), (7, 4, .h (some [33]) [])], []⟩) Tryz.func58 rfl rfl rfl (by kernel_rfl) ha (by decide) h

def q1se : CC :=
 (.seq (.reg [.o (.move 4 (cv (.slice none 0 0)))])
 ((.seq (.reg [.o (.bslice 8 1 0 []),mv 5 8])
 ((.seq (.seq (.reg [.o (.move 6 (ci 0))])
 ((.block 0 (.loop (.seq (.seq (.reg [mv 9 6,mv 10 1,.o (.lenS 11 (sl 10)),.o (.bin 12 .lss (sl 9) (sl 11))])
 ((.cond (sl 12) .skip
 (.exit 0))))
 ((.seq (.block 1 (.seq (.reg [mv 15 0,mv 16 5,.o (.lenS 17 (sl 16)),.o (.bin 18 .add (sl 17) (ci 1)),.o (.call (some 19) (cf 57) [(sl 15), (sl 18)]),mv 7 19])
 ((.draw [20, 29] [(kN, .o (.bslice 20 1 0 [])),(.r false [20], mv 21 5),(.r false [20], mv 22 7),(.r false [20], .o (.slc 23 1 (sl 21) none (some (sl 22)))),(.h (some [20]) [], .o (.app 24 1 8 (sl 20) (sl 23))),(.r false [20, 24], mv 25 1),(.r false [20, 24], mv 26 6),(.r false [20, 24], ix 27 25 26),(.r false [20, 24], l1 28 27),(kN, .o (.bslice 29 1 1 [(0, (sl 28))])),(.h (some [24]) [], .o (.app 30 1 8 (sl 24) (sl 29))),(.r false [20, 24, 29, 30], mv 31 5),(.r false [20, 24, 29, 30], mv 32 7),(.r false [20, 24, 29, 30], .o (.slc 33 1 (sl 31) (some (sl 32)) none)),(kH, .o (.app 34 1 8 (sl 30) (sl 33))),kr (mv 5 34)]))))
 ((.reg [mv 13 6,.o (.bin 14 .add (sl 13) (ci 1)),mv 6 14])))))))))
 ((.seq (.reg [mv 35 5,mv 4 35])
 (.ret))))))))
theorem q1sz {rin args Q} (ha : args.length <= 36) (h : fW 36 q1se [.tmp 4] rin args Q) : Fun Tryz.prog 59 rin args Q :=
 Fun.of (H := ⟨[(6, 5, .r false [20, 24]), (6, 6, .r false [20, 24]), (6, 7, .r false [20, 24]), (6, 8, .r false [20, 24]), (6, 4, .h (some [20]) []), (6, 11, .r false [20, 24, 29, 30]), (6, 12, .r false [20, 24, 29, 30]), (6, 13, .r false [20, 24, 29, 30]), (6, 10, .h (some [24]) [])], []⟩) Tryz.func59 rfl rfl rfl (by kernel_rfl) ha (by decide) h

section
attribute [-go_sem] q0i5 q0id fldC lenC idxC q0ip
theorem q1rz {l : List T} {Rs : List Int} (h : ∀ z ∈ l, z ∈ Rs.map T.i) : l.all T.cell = true /\ l.all T.flat = true :=
 ⟨rO.2 fun z hz => by obtain ⟨k, _, rfl⟩ := qN.1 (h z hz); rfl, rO.2 fun z hz => by obtain ⟨k, _, rfl⟩ := qN.1 (h z hz); rfl⟩
def q1si (l : List Int) : Prop := ∀ c ∈ l, 0 <= c /\ c < 52
theorem q1tb : (q1mf []).length = 52 /\ q1si (q1mf []) := by
 constructor
 ·decide
 ·intro c hc
  unfold q1mf q1mg at hc
  obtain ⟨k, hk, rfl⟩ := qN.1 (qV.1 hc).1
  have : k < 52 := by simpa using hk
  omega
theorem q1to : Fun Tryz.prog 88 [] [.t (.v (.slice none 0 0))] fun o r => o = [] /\ r = intsO (q1mf []) :=
 (q1p9 [] (by simp)).nilA rfl fun i h h' => by
  match i, h with
  | 0, _ => exact .inr ⟨⟨1, rfl⟩, rfl⟩
theorem q1tr (cs : List Int) (hc : q161 cs) (hl : cs.length <= 100000000000) (a : Nat × Int) (ha : q0qx a) (n : Nat) (hn : n <= 52) :
  Fun Tryz.prog 58 [.box [bytes cs, .i a.1, .i a.2]] [.own 1000000000, .t (.i n), .t (.v (.slice none 0 0))] fun o r => ∃ x : List Int × (Nat × Int), o = [.box [bytes cs, .i x.2.1, .i x.2.2]] /\ r = intsO x.1 /\ (x.1.length = n /\ q1si x.1 /\ q0qx x.2) := by
 obtain ⟨o1, o2⟩ := q1tb
 refine q1sy (by simp) ?_
 simp -implicitDefEqProofs only [eR', go_sem, q1sd]
 refine q006.res q1to [] rfl Tryz.call88 ?_ (.inl rfl) ?_
 ·simp -implicitDefEqProofs only [aR', go_sem]
 simp -implicitDefEqProofs only [cR', go_sem]
 generalize q1mf [] = R0 at o1 o2
 refine SemC.loopR (σ := Nat × (List Int × List Int) × (Nat × Int)) (fun s => St.of [(0, .own 1000000000), (1, .t (.i s.1)), (7, .own 97), (8, .own 98)] [(1000000000, .box [bytes cs, .i s.2.2.1, .i s.2.2.2]), (97, .arr 1 (s.2.1.1.map T.i)), (98, .arr 1 (s.2.1.2.map T.i))]) (fun s => q0qx s.2.2 /\ s.2.1.2.length + s.1 = n /\ s.2.1.1.length + s.2.1.2.length = 52 /\ q1si s.2.1.1 /\ q1si s.2.1.2) (fun s => s.1) (n, (R0, []), a) (Weak.of _ _ [some 1000000000, some 11, some 12] (by simp) (by simp) ?_ ⟨⟨_, rfl, .refl _⟩, rfl, ⟨_, rfl, .refl _⟩, rfl, ⟨_, rfl, .refl _⟩, rfl, trivial⟩) ⟨ha, by simp, by simpa using o1, o2, fun c h => by simp at h⟩ fun s hI R hn' hr he => ?_
 ·simp -implicitDefEqProofs only [wR', Nat.reduceBEq, Nat.reduceEqDiff, ↓reduceIte]
 obtain ⟨k, ⟨Rs, L⟩, b⟩ := s
 obtain ⟨hb, h1, h2, h3, h4⟩ := hI
 (try simp only [] at hb h1 h2 h3 h4)
 rcases Nat.eq_zero_or_pos k with h9 | h9
 ·subst h9
  simp -implicitDefEqProofs only [eR', go_sem, show decide (((0 : Nat) : Int) > 0) = false from rfl]
  refine he _ _ ?_
  simp -implicitDefEqProofs only [eR', go_sem]
  exact ⟨(L, b), ⟨rfl, rfl, by simpa using h1, h4, hb⟩⟩
 ·obtain ⟨k', rfl⟩ : ∃ k', k = k' + 1 := ⟨k - 1, by omega⟩
  simp -implicitDefEqProofs only [eR', go_sem, decide_eq_true (show ((k' + 1 : Nat) : Int) > 0 by omega), decide_eq_true (show (Rs.length : Int) > 0 by omega)]
  refine q006.ref (q10p cs hc hl b hb Rs.length (by omega)) [1000000000] [] rfl Tryz.call57 (by simp) ?_ (by simp) ?_ (.inl rfl) ?_
  ·simp -implicitDefEqProofs only [sR', Nat.reduceEqDiff, ↓reduceIte]
  ·simp -implicitDefEqProofs only [aR', go_sem]
  simp -implicitDefEqProofs only [cR', go_sem]
  have hb2 := q10n (cs := cs) (a := b) (show (1 : Int) <= Rs.length by omega)
  have hs2 := q10o (cs := cs) hl hb Rs.length
  generalize q10m cs b Rs.length = z at hb2 hs2 ⊢
  obtain ⟨x, c⟩ := z
  simp only [] at hb2 hs2 ⊢
  obtain ⟨X, rfl⟩ : ∃ X : Nat, x = X := ⟨x.toNat, by omega⟩
  have hX : X < Rs.length := by omega
  obtain ⟨y, hy⟩ : ∃ y, Rs[X]? = some y := ⟨_, qB hX⟩
  have hy52 := h3 y (qE hy)
  simp -implicitDefEqProofs only [eR', go_sem, hy, Int.toNat_natCast, q0lb hX (by omega)]
  have e1 := q1rz (l := (Rs.map T.i).take (X - 0)) (Rs := Rs) fun z hz => rU hz
  have e2 := q1rz (l := ((Rs.map T.i).drop (X + 1)).take (Rs.length - (X + 1))) (Rs := Rs) fun z hz => List.mem_of_mem_drop (rU hz)
  have e3 : ((Rs.map T.i).take (X - 0)).length <= Rs.length := by rw [qL, qJ]; omega
  have e4 : (((Rs.map T.i).drop (X + 1)).take (Rs.length - (X + 1))).length <= Rs.length := by rw [qL, List.length_drop, qJ]; omega
  refine ⟨by omega, by omega, by omega, by omega, by omega, by omega, by omega, e1.1, e1.2, by omega, ⟨by omega, by omega, by omega, e2.1, e2.2, by omega, ?_⟩, ((q09v.refl _ _ _).upd _ (.inl (by simp))).upd _ (.inr rfl)⟩
  have hdr : ((Rs.map T.i).drop (X + 1)).take (Rs.length - (X + 1)) = (Rs.drop (X + 1)).map T.i := by
   rw [qQ (by rw [List.length_drop, qJ]; omega), List.map_drop]
  refine hn' _ (k', (Rs.take X ++ Rs.drop (X + 1), L ++ [y]), c) (Weak.o _ _ [some 1000000000, some 42, some 32] ?_ ?_) ⟨hs2, ?_, ?_, ?_, ?_⟩ (by simp only []; omega)
  ·have e : IntKind.i64.wrap (((k' + 1 : Nat) : Int) - 1) = (k' : Int) := by rw [wrap64 (by omega) (by omega)]; omega
   simp -implicitDefEqProofs only [wR', Nat.reduceBEq, Nat.reduceEqDiff, ↓reduceIte, e]
  ·refine ⟨⟨_, rfl, .refl _⟩, rfl, ⟨_, rfl, ?_⟩, rfl, ⟨_, rfl, ?_⟩, rfl, trivial⟩
   ·rw [hdr, qG, List.map_take]; exact .refl _
   ·rw [qG]; exact .refl _
  ·simp only [qD, List.length_cons, List.length_nil]; omega
  ·simp only [qD, List.length_cons, List.length_nil, qL, List.length_drop]; omega
  ·intro z hz
   rcases qI.1 hz with hz | hz
   ·exact h3 z (rU hz)
   ·exact h3 z (List.mem_of_mem_drop hz)
  ·intro z hz
   rcases qI.1 hz with hz | hz
   ·exact h4 z hz
   ·have : z = y := by simpa using hz
    subst this; exact hy52
theorem q1ts (cs : List Int) (hc : q161 cs) (hl : cs.length <= 100000000000) (a : Nat × Int) (ha : q0qx a) (l : List Int) (hn : l.length <= 1000) :
  Fun Tryz.prog 59 [.box [bytes cs, .i a.1, .i a.2], .arr 1 (l.map T.i)] [.own 1000000000, .own 1000000001] fun o r => ∃ x : List Int × (Nat × Int), o = [.box [bytes cs, .i x.2.1, .i x.2.2], .arr 1 (l.map T.i)] /\ r = intsO x.1 /\ (x.1.length = l.length /\ (∀ c ∈ x.1, c ∈ l) /\ q0qx x.2) := by
 refine q1sz (by simp) ?_
 simp -implicitDefEqProofs only [eR', go_sem, q1se]
 refine SemC.loopR (σ := Nat × List Int × (Nat × Int)) (fun s => St.of [(0, .own 1000000000), (1, .own 1000000001), (5, .own 98), (6, .t (.i s.1))] [(1000000000, .box [bytes cs, .i s.2.2.1, .i s.2.2.2]), (1000000001, .arr 1 (l.map T.i)), (98, .arr 1 (s.2.1.map T.i))]) (fun s => q0qx s.2.2 /\ s.2.1.length = s.1 /\ s.1 <= l.length /\ ∀ c ∈ s.2.1, c ∈ l) (fun s => l.length - s.1) (0, [], a) (Weak.of _ _ [some 1000000000, some 1000000001, some 8] (by simp) (by simp) ?_ ⟨⟨_, rfl, .refl _⟩, rfl, ⟨_, rfl, .refl _⟩, rfl, ⟨_, rfl, .refl _⟩, rfl, trivial⟩) ⟨ha, by simp, by simp, by simp⟩ fun s hI R hn' hr he => ?_
 ·simp -implicitDefEqProofs only [wR', Nat.reduceBEq, Nat.reduceEqDiff, ↓reduceIte]
 obtain ⟨i, L, b⟩ := s
 obtain ⟨hb, h1, h2, h3⟩ := hI
 (try simp only [] at hb h1 h2 h3)
 rcases qH i l.length with h9 | h9
 ·obtain ⟨y, hy⟩ : ∃ y, l[i]? = some y := ⟨_, qB h9⟩
  simp -implicitDefEqProofs only [eR', go_sem, hy, decide_eq_true (show (i : Int) < (l.length : Int) by omega)]
  have hw : IntKind.i64.wrap ((L.length : Int) + 1) = ((L.length + 1 : Nat) : Int) := by rw [wrap64 (by omega) (by omega)]; omega
  rw [hw]
  refine q006.ref (q10p cs hc hl b hb ((L.length + 1 : Nat) : Int) (by omega)) [1000000000] [] rfl Tryz.call57 (by simp) ?_ (by simp) ?_ (.inl rfl) ?_
  ·simp -implicitDefEqProofs only [sR', Nat.reduceEqDiff, ↓reduceIte]
  ·simp -implicitDefEqProofs only [aR', go_sem]
  simp -implicitDefEqProofs only [cR', go_sem]
  have hb2 := q10n (cs := cs) (a := b) (show (1 : Int) <= ((L.length + 1 : Nat) : Int) by omega)
  have hs2 := q10o (cs := cs) hl hb ((L.length + 1 : Nat) : Int)
  generalize q10m cs b ((L.length + 1 : Nat) : Int) = z at hb2 hs2 ⊢
  obtain ⟨x, c⟩ := z
  simp only [] at hb2 hs2 ⊢
  obtain ⟨X, rfl⟩ : ∃ X : Nat, x = X := ⟨x.toNat, by omega⟩
  have hX : X <= L.length := by omega
  simp -implicitDefEqProofs only [eR', go_sem, hy, Int.toNat_natCast]
  have e1 := q1rz (l := (L.map T.i).take (X - 0)) (Rs := L) fun z hz => rU hz
  have e2 := q1rz (l := ((L.map T.i).drop X).take (L.length - X)) (Rs := L) fun z hz => List.mem_of_mem_drop (rU hz)
  have e3 : ((L.map T.i).take (X - 0)).length <= L.length := by rw [qL, qJ]; omega
  have e4 : (((L.map T.i).drop X).take (L.length - X)).length <= L.length := by rw [qL, List.length_drop, qJ]; omega
  have e5 : ((L.map T.i).take (X - 0) ++ [T.i y]).length <= L.length + 1 := by rw [qD]; simp only [List.length_cons, List.length_nil]; omega
  refine ⟨by omega, by omega, by omega, e1.1, e1.2, by omega, ⟨by omega, by omega, by omega, by omega, ⟨by omega, by omega, by omega, e2.1, e2.2, by omega, ?_⟩, ((q09v.refl _ _ _).upd _ (.inl (by simp))).upd _ (.inr rfl)⟩, ((q09v.refl _ _ _).upd _ (.inl (by simp))).upd _ (.inr rfl)⟩
  have hdr : ((L.map T.i).drop X).take (L.length - X) = (L.drop X).map T.i := by
   rw [qQ (by rw [List.length_drop, qJ]; omega), List.map_drop]
  refine hn' _ (i + 1, L.take X ++ [y] ++ L.drop X, c) (Weak.o _ _ [some 1000000000, some 1000000001, some 34] ?_ ?_) ⟨hs2, ?_, by simp only []; omega, ?_⟩ (by simp only []; omega)
  ·simp -implicitDefEqProofs only [wR', Nat.reduceBEq, Nat.reduceEqDiff, ↓reduceIte, q0lb h9 (by omega)]
  ·refine ⟨⟨_, rfl, .refl _⟩, rfl, ⟨_, rfl, .refl _⟩, rfl, ⟨_, rfl, ?_⟩, rfl, trivial⟩
   rw [hdr, qG, qG, List.map_take]; exact .refl _
  ·simp only [qD, List.length_cons, List.length_nil, qL, List.length_drop]; omega
  ·intro z hz
   simp only [qI, qO, List.not_mem_nil, or_false] at hz
   rcases hz with (hz | rfl) | hz
   ·exact h3 z (rU hz)
   ·exact qE hy
   ·exact h3 z (List.mem_of_mem_drop hz)
 ·simp -implicitDefEqProofs only [eR', go_sem, decide_eq_false (show ¬ (i : Int) < (l.length : Int) by omega)]
  refine he _ _ ?_
  simp -implicitDefEqProofs only [eR', go_sem]
  exact ⟨(L, b), ⟨rfl, rfl, by simp only []; omega, h3, hb⟩⟩
end

def q1sg : CC :=
 (.seq (.reg [.o (.move 2 (ci 0)),.o (.move 3 (cv (.slice none 0 0))),.o (.move 4 (cv (.slice none 0 0))),.o (.move 5 (cv (.slice none 0 0)))])
 ((.seq (.reg [mv 19 0,.o (.bslice 20 1 5 [(0, (ci 0)), (1, (ci 0)), (2, (ci 0)), (3, (ci 1)), (4, (ci 2))]),.o (.call (some 21) (cf 56) [(sl 19), (sl 20)]),mv 6 21])
 ((.seq (.reg [mv 22 0,.o (.call (some 23) (cf 57) [(sl 22), (ci 2)]),.o (.bin 24 .add (ci 2) (sl 23)),mv 7 24])
 ((.seq (.reg [.o (.call (some 25) (cf 44) []),mv 26 6,.o (.idx 27 6 (sl 25) (sl 26)),fl 28 0 27,l1 29 28,mv 8 29])
 ((.seq (.reg [mv 30 0,mv 31 7,mv 32 8,.o (.bin 33 .mul (sl 31) (sl 32)),.o (.bin 34 .add (sl 33) (ci 5)),mv 35 0,.o (.call (some 36) (cf 57) [(sl 35), (ci 4)]),.o (.bin 37 .add (sl 34) (sl 36)),.o (.call (some 38) (cf 58) [(sl 30), (sl 37), (cv (.slice none 0 0))]),mv 9 38])
 ((.seq (.seq (.reg [mv 39 0,.o (.call (some 40) (cf 57) [(sl 39), (ci 3)]),.o (.bin 41 .eql (sl 40) (ci 0))])
 ((.cond (sl 41) (.seq (.reg [.o (.bslice 42 1 0 []),mv 10 42])
 ((.seq (.seq (.reg [.o (.move 11 (ci 0))])
 ((.block 0 (.loop (.seq (.seq (.reg [mv 43 11,.o (.bin 44 .lss (sl 43) (ci 52))])
 ((.cond (sl 44) .skip
 (.exit 0))))
 ((.seq (.block 1 (.seq (.reg [mv 47 11,.o (.bin 48 .quo (sl 47) (ci 4)),.o (.bin 49 .rem (sl 48) (ci 2)),.o (.bin 50 .eql (sl 49) (ci 0))])
 ((.cond (sl 50) (.reg [mv 51 10,mv 52 11,.o (.bslice 53 1 1 [(0, (sl 52))]),.o (.app 54 1 8 (sl 51) (sl 53)),mv 10 54])
 .skip))))
 ((.reg [mv 45 11,.o (.bin 46 .add (sl 45) (ci 1)),mv 11 46])))))))))
 ((.reg [mv 55 0,mv 56 10,.o (.call (some 57) (cf 59) [(sl 55), (sl 56)]),mv 58 9,.o (.lenS 59 (sl 58)),.o (.slc 60 1 (sl 57) none (some (sl 59))),mv 9 60])))))
 .skip)))
 ((.seq (.weak (.reg [.o (.bslice 61 1 0 []),mv 12 61]))
 ((.seq (.seq (.reg [.o (.move 13 (ci 0))])
 ((.block 2 (.loop (.seq (.seq (.reg [mv 62 13,mv 63 7,.o (.bin 64 .lss (sl 62) (sl 63))])
 ((.cond (sl 64) .skip
 (.exit 2))))
 ((.seq (.block 3 (.reg [mv 67 12,mv 68 9,mv 69 13,mv 70 8,.o (.bin 71 .mul (sl 69) (sl 70)),mv 72 13,mv 73 8,.o (.bin 74 .mul (sl 72) (sl 73)),mv 75 8,.o (.bin 76 .add (sl 74) (sl 75)),.o (.slc 77 1 (sl 68) (some (sl 71)) (some (sl 76))),.o (.call (some 78) (cf 43) [(sl 77)]),.o (.bslice 79 1 1 [(0, (sl 78))]),.o (.app 80 1 24 (sl 67) (sl 79)),mv 12 80]))
 ((.reg [mv 65 13,.o (.bin 66 .add (sl 65) (ci 1)),mv 13 66])))))))))
 ((.seq (.reg [mv 81 9,mv 82 7,mv 83 8,.o (.bin 84 .mul (sl 82) (sl 83)),.o (.slc 85 1 (sl 81) (some (sl 84)) none),mv 14 85])
 ((.seq (.reg [mv 86 0,.o (.bslice 87 1 6 [(0, (ci 5)), (1, (ci 4)), (2, (ci 4)), (3, (ci 5)), (4, (ci 4)), (5, (ci 4))]),.o (.call (some 88) (cf 56) [(sl 86), (sl 87)]),mv 15 88])
 ((.seq (.seq (.reg [mv 89 6,.o (.bin 90 .eql (sl 89) (ci 0)),mv 91 90,.g 91 true (some 92) (.move 92 (sl 0)),.g 91 true (some 93) (.call (some 93) (cf 57) [(sl 92), (ci 40)]),.g 91 true (some 94) (.bin 94 .eql (sl 93) (ci 0)),.o (.pick 95 (sl 91) (sl 94) (cb false))])
 ((.cond (sl 95) (.reg [.o (.move 15 (ci 3))])
 .skip)))
 ((.seq (.weak (.draw [99, 102] [kr (mv 96 14),kr (mv 97 15),kr (.o (.slc 98 1 (sl 96) none (some (sl 97)))),(.c false [], .o (.call (some 99) (cf 43) [(sl 98)])),(.r false [99], mv 100 14),(.r false [99], .o (.slc 101 1 (sl 100) (some (ci 5)) none)),(.c false [], .o (.call (some 102) (cf 43) [(sl 101)])),kr (mv 16 99),kr (mv 17 102)]))
 ((.seq (.seq (.weak (.reg [mv 103 0,.o (.call (some 104) (cf 57) [(sl 103), (ci 24)])]))
 ((.block 4 (.seq (.reg [.o (.bin 106 .eql (sl 104) (ci 4)),mv 105 106])
 ((.cond (sl 105) (.seq (.reg [mv 107 12,mv 108 16,.o (.call (some 109) (cf 60) [(sl 107), (sl 108), (cv (.slice none 0 0))]),mv 18 109])
 ((.weak (.reg [mv 110 18,mv 111 18,.o (.lenS 112 (sl 111)),mv 113 0,.o (.call (some 114) (cf 57) [(sl 113), (ci 3)]),.o (.bin 115 .sub (sl 112) (sl 114)),.o (.slc 116 1 (sl 110) none (some (sl 115))),mv 17 116]))))
 (.seq (.reg [.o (.bin 118 .eql (sl 104) (ci 0)),mv 117 118])
 ((.cond (sl 117) (.reg [mv 119 16,mv 120 12,.o (.idx 121 1 (sl 120) (ci 0)),l1 122 121,.o (.idx 123 1 (sl 122) (ci 0)),l1 124 123,.o (.idx 125 1 (sl 119) (ci 0)),.o (.store 1 (sl 125) (sl 124))])
 (.seq (.reg [.o (.bin 127 .eql (sl 104) (ci 1)),mv 126 127])
 ((.cond (sl 126) (.reg [mv 128 0,.o (.bslice 129 1 3 [(0, (ci (-1))), (1, (ci 1)), (2, (ci 3))]),.o (.call (some 130) (cf 56) [(sl 128), (sl 129)]),mv 6 130])
 (.seq (.reg [.o (.bin 132 .eql (sl 104) (ci 2)),mv 131 132])
 ((.cond (sl 131) (.seq (.weak (.draw [] [kr (mv 133 6),kr (mv 134 12),kr (.o (.slc 135 1 (sl 134) (some (ci 1)) none)),kr (mv 136 16),kr (mv 137 17),kr (mv 2 133),kr (mv 3 135),kr (mv 4 136),kr (mv 5 137)]))
 (.ret))
 (.seq (.reg [.o (.bin 139 .eql (sl 104) (ci 3)),mv 138 139])
 ((.cond (sl 138) (.weak (.reg [mv 140 16,.o (.slc 141 1 (sl 140) none (some (ci 2))),mv 16 141]))
 .skip))))))))))))))))))
 ((.seq (.weak (.reg [mv 142 6,mv 143 12,mv 144 16,mv 145 17,mv 2 142,mv 3 143,mv 4 144,mv 5 145]))
 (.ret))))))))))))))))))))))))))))
theorem q1t1 {rin args Q} (ha : args.length <= 146) (h : fW 146 q1sg [.tmp 2, .tmp 3, .tmp 4, .tmp 5] rin args Q) : Fun Tryz.prog 33 rin args Q :=
 Fun.of (H := ⟨[], [13, 22, 23, 26, 32, 34, 35]⟩) Tryz.func33 rfl rfl rfl (by kernel_rfl) ha (by decide) h

section
attribute [-go_sem] q0i5 q0id fldC lenC idxC q0ip cW.eq_10
theorem q1s2 {P : Program} {n : Nat} {c : CC} {Q : Exit -> St -> Prop} {S S' : St} (hw : Weak n S S') (h : cW P n c Q S') : cW P n (.weak c) Q S := ⟨S', hw, h⟩
theorem q1u2 {X : Type} {A : Prop} {G : X -> Prop} (p : X -> Prop) (t : ∀ x, p x -> G x) (h : (∀ x, p x -> G x) -> A) : A := h t
theorem q1ta (l : List Int) : 52 <= (q1mf l).length + l.length := by
 have h1 : (q1mf l).length = ((List.range 52).map fun (k : Nat) => (k : Int)).countP (fun x => decide (x ∉ l)) := by
  rw [q1mf, q1mg, List.countP_eq_length_filter]
 have h2 := q1e7 (l := (List.range 52).map fun (k : Nat) => (k : Int)) (fun x => decide (x ∈ l))
 have h3 : (((List.range 52).map fun (k : Nat) => (k : Int)).filter (fun x => decide (x ∈ l))).length <= l.length := q1lg (ys := l) (List.Pairwise.filter _ (by rw [List.pairwise_map]; exact List.Pairwise.imp (fun h e => h (by omega)) List.nodup_range)) fun x hx => by simpa using (qV.1 hx).2
 rw [← List.countP_eq_length_filter] at h3
 have h4 : ((List.range 52).map fun (k : Nat) => (k : Int)).countP (fun x => !decide (x ∈ l)) = ((List.range 52).map fun (k : Nat) => (k : Int)).countP (fun x => decide (x ∉ l)) := by
  congr 1; funext x; simp
 have h5 : ((List.range 52).map fun (k : Nat) => (k : Int)).length = 52 := by simp
 omega
theorem q1tw : ∀ v : Nat, v <= 2 -> [T.i 2, T.i 0, T.i 2, T.i 5, T.b true, T.i 0, T.i 4, T.i 2, T.i 2, T.i 5, T.b true, T.i 0, T.i 4, T.i 2, T.i 2, T.i 5, T.b true, T.i 1, T.i 7, T.i 5, T.i 5, T.i 0, T.b true, T.i 0, T.i 7, T.i 5, T.i 5, T.i 0, T.b true, T.i 1, T.i 7, T.i 5, T.i 5, T.i 0, T.b false, T.i 2, T.i 5, T.i 5, T.i 5, T.i 0, T.b true, T.i 0, T.i 5, T.i 5, T.i 5, T.i 0, T.b false, T.i 3][v * 6]? = some (T.i (hoOf v : Nat))
 | 0, _ => rfl | 1, _ => rfl | 2, _ => rfl | n + 3, h => by omega
def q1tj (x : (Int × List (List Int)) × (List Int × List Int)) : Prop := (-1 <= x.1.1 /\ x.1.1 <= 3) /\ (x.1.2.length <= 3 /\ ∀ r ∈ x.1.2, r.length <= 4) /\ x.2.1.length <= 5 /\ x.2.2.length <= 52
def q1sl (x : (Int × List (List Int)) × (List Int × List Int)) : T := .tup [.i x.1.1, rows x.1.2, ints x.2.1, ints x.2.2]
theorem nil3 {a b : T} : ∀ i (h : i < [A.t a, A.t b, A.t (ints [])].length) (h' : i < [A.t a, A.t b, A.t (.v (.slice none 0 0))].length), [A.t a, A.t b, A.t (ints [])][i] = [A.t a, A.t b, A.t (.v (.slice none 0 0))][i] ∨ ((∃ s, [A.t a, A.t b, A.t (ints [])][i] = .t (.sh s [])) /\ [A.t a, A.t b, A.t (.v (.slice none 0 0))][i] = .t (.v (.slice none 0 0)))
 | 0, _, _ => .inl rfl
 | 1, _, _ => .inl rfl
 | 2, _, _ => .inr ⟨⟨1, rfl⟩, rfl⟩
 | n + 3, h, _ => absurd h (by simp)
theorem q1sn {m : List (List Int)} {k : Nat} (h : ∀ r ∈ m, r.length <= k) : m.flatten.length <= m.length * k := by
 induction m with
 | nil => simp
 | cons r m ih =>
   have h1 := h r (by simp)
   have h2 := ih fun x hx => h x (by simp [hx])
   rw [qZ, qD, List.length_cons, Nat.add_mul]; omega
theorem q1tu (cs : List Int) (hc : q161 cs) (hl : cs.length <= 100000000000) (a : Nat × Int) (ha : q0qx a) :
  Fun Tryz.prog 33 [.box [bytes cs, .i a.1, .i a.2]] [.own 1000000000] fun o r => ∃ x : ((Int × List (List Int)) × (List Int × List Int)) × (Nat × Int), o = [.box [bytes cs, .i x.2.1, .i x.2.2]] /\ r = q1sl x.1 /\ (q1tj x.1 /\ q0qx x.2) := by
 refine q1t1 (by simp) ?_
 simp -implicitDefEqProofs only [eR', go_sem, q1sg]
 have hp := q117 cs hc hl a ha [0, 0, 0, 1, 2] (by simp) (by simp)
 simp only [intsO, List.map_cons, List.map_nil] at hp
 refine q006.ref hp [1000000000, 20] [] rfl Tryz.call56 (by simp) ?_ (by simp) ?_ (.inl rfl) ?_
 ·simp -implicitDefEqProofs only [sR', Nat.reduceEqDiff, ↓reduceIte]
 ·simp -implicitDefEqProofs only [aR', go_sem]
 simp -implicitDefEqProofs only [cR', go_sem]
 have hm := q1tf (cs := cs) (a := a) (l := [0, 0, 0, 1, 2]) (by simp)
 have hs1 := q116 (cs := cs) hl ha [0, 0, 0, 1, 2]
 generalize q115 cs a [0, 0, 0, 1, 2] = z at hm hs1 ⊢
 obtain ⟨v, b⟩ := z
 simp only [] at hm hs1 ⊢
 obtain ⟨V, rfl, hV⟩ : ∃ V : Nat, v = V /\ V <= 2 := ⟨v.toNat, by simp at hm; omega, by simp at hm; omega⟩
 refine q006.ref (q10p cs hc hl b hs1 2 (by omega)) [1000000000] [] rfl Tryz.call57 (by simp) ?_ (by simp) ?_ (.inl rfl) ?_
 ·simp -implicitDefEqProofs only [sR', Nat.reduceEqDiff, ↓reduceIte]
 ·simp -implicitDefEqProofs only [aR', go_sem]
 simp -implicitDefEqProofs only [cR', go_sem]
 have hb2 := q10n (cs := cs) (a := b) (show (1 : Int) <= 2 by omega)
 have hs2 := q10o (cs := cs) hl hs1 2
 generalize q10m cs b 2 = z at hb2 hs2 ⊢
 obtain ⟨x, c⟩ := z
 simp only [] at hb2 hs2 ⊢
 obtain ⟨P, hP, hP3⟩ : ∃ P : Nat, IntKind.i64.wrap (2 + x) = (P : Int) /\ (P <= 3 /\ 2 <= P) := ⟨(2 + x).toNat, by rw [wrap64 (by omega) (by omega)]; omega, by omega, by omega⟩
 obtain ⟨hP3, hP2⟩ := hP3
 have hho := q1is V
 refine q006.res q1pr [] rfl Tryz.call44 ?_ (.inl rfl) ?_
 ·simp -implicitDefEqProofs only [aR', go_sem]
 simp -implicitDefEqProofs only [cR', go_sem, stdT, q1tw V hV, hP]
 have hPH : P * hoOf V <= 3 * 4 := Nat.mul_le_mul hP3 hho
 have hw1 : IntKind.i64.wrap ((P : Int) * (hoOf V : Nat)) = ((P * hoOf V : Nat) : Int) := by rw [← Int.natCast_mul]; exact wrap64 (by omega) (by omega)
 have hw2 : IntKind.i64.wrap (((P * hoOf V : Nat) : Int) + 5) = ((P * hoOf V + 5 : Nat) : Int) := by rw [wrap64 (by omega) (by omega)]; omega
 rw [hw1, hw2]
 refine ⟨by omega, by omega, by omega, ?_⟩
 refine q006.ref (q10p cs hc hl c hs2 4 (by omega)) [1000000000] [] rfl Tryz.call57 (by simp) ?_ (by simp) ?_ (.inl rfl) ?_
 ·simp -implicitDefEqProofs only [sR', Nat.reduceEqDiff, ↓reduceIte]
 ·simp -implicitDefEqProofs only [aR', go_sem]
 simp -implicitDefEqProofs only [cR', go_sem]
 have hb3 := q10n (cs := cs) (a := c) (show (1 : Int) <= 4 by omega)
 have hs3 := q10o (cs := cs) hl hs2 4
 generalize q10m cs c 4 = z at hb3 hs3 ⊢
 obtain ⟨n4, d⟩ := z
 simp only [] at hb3 hs3 ⊢
 obtain ⟨M, hM, hM20⟩ : ∃ M : Nat, IntKind.i64.wrap (((P * hoOf V + 5 : Nat) : Int) + n4) = (M : Int) /\ (P * hoOf V + 5 <= M /\ M <= P * hoOf V + 8) := ⟨P * hoOf V + 5 + n4.toNat, by rw [wrap64 (by omega) (by omega)]; omega, by omega⟩
 rw [hM]
 have hdl := q1tr cs hc hl d hs3 M (by omega)
 refine q006.exi hdl [1000000000] [] rfl Tryz.call58 (by simp) ?_ (by simp) ?_ (.inl rfl) (fun x hx => ?_)
 ·simp -implicitDefEqProofs only [sR', Nat.reduceEqDiff, ↓reduceIte]
 ·simp -implicitDefEqProofs only [aR', go_sem]
 simp -implicitDefEqProofs only [cR', go_sem]
 obtain ⟨D, e⟩ := x
 obtain ⟨hD1, hD2, hs4⟩ := hx
 (try simp only [] at hD1 hD2 hs4)
 (try simp only [])
 refine q006.ref (q10p cs hc hl e hs4 3 (by omega)) [1000000000] [] rfl Tryz.call57 (by simp) ?_ (by simp) ?_ (.inl rfl) ?_
 ·simp -implicitDefEqProofs only [sR', Nat.reduceEqDiff, ↓reduceIte]
 ·simp -implicitDefEqProofs only [aR', go_sem]
 simp -implicitDefEqProofs only [cR', go_sem, intsO]
 have hs5 := q10o (cs := cs) hl hs4 3
 generalize q10m cs e 3 = z at hs5 ⊢
 obtain ⟨n3, f⟩ := z
 simp only [] at hs5 ⊢
 apply q1u2 (X := List Int × (Nat × Int)) (fun x => x.1.length = M /\ q0qx x.2)
 case h =>
  intro tail
  refine ⟨fun h3 => ?_, fun h3 => ?_⟩
  ·refine SemC.loopR (σ := Nat) (fun i => St.of [(0, .own 1000000000), (6, .t (.i V)), (7, .t (.i P)), (8, .t (.i (hoOf V : Nat))), (9, .own 97), (10, .own 98), (11, .t (.i i))] [(1000000000, .box [bytes cs, .i f.1, .i f.2]), (97, .arr 1 (D.map T.i)), (98, .arr 1 ((((List.range i).filter fun k => k / 4 % 2 == 0).map fun (k : Nat) => (k : Int)).map T.i))]) (fun i => i <= 52) (fun i => 52 - i) 0 (Weak.of _ _ [some 1000000000, some 38, some 42] (by simp) (by simp) ?_ ⟨⟨_, rfl, .refl _⟩, rfl, ⟨_, rfl, .refl _⟩, rfl, ⟨_, rfl, .refl _⟩, rfl, trivial⟩) (by omega) fun i hi R hn' hr he => ?_
   ·simp -implicitDefEqProofs only [wR', Nat.reduceBEq, Nat.reduceEqDiff, ↓reduceIte]
   ·have hfl : ((((List.range i).filter fun k => k / 4 % 2 == 0).map fun (k : Nat) => (k : Int))).length <= i := by rw [qJ]; exact rA (List.length_filter_le _ _) (by simp)
    rcases qH i 52 with h9 | h9
    ·have hsn : ((List.range (i + 1)).filter fun k => k / 4 % 2 == 0).map (fun (k : Nat) => (k : Int)) = ((List.range i).filter fun k => k / 4 % 2 == 0).map (fun (k : Nat) => (k : Int)) ++ if i / 4 % 2 = 0 then [(i : Int)] else [] := by
      rw [List.range_succ, List.filter_append, qG]
      congr 1
      by_cases h : i / 4 % 2 = 0 <;> simp [h]
     generalize ((List.range i).filter fun k => k / 4 % 2 == 0).map (fun (k : Nat) => (k : Int)) = F at hfl hsn
     have hq : IntKind.i64.wrap ((i : Int).tdiv 4) = ((i / 4 : Nat) : Int) := q1u8 (a := i) (b := 4) (by omega)
     have hr4 : ((i / 4 : Nat) : Int).tmod 2 = ((i / 4 % 2 : Nat) : Int) := q1qt (i / 4) 2
     simp -implicitDefEqProofs only [eR', go_sem, decide_eq_true (show (i : Int) < 52 by omega), hq, hr4]
     refine ⟨by omega, by omega, fun h => ⟨by omega, ?_⟩, fun h => ?_⟩
     ·have h0 : i / 4 % 2 = 0 := by have : ((i / 4 % 2 : Nat) : Int) = 0 := by simpa using h
                                    omega
      rw [if_pos h0] at hsn
      refine hn' _ (i + 1) (Weak.of _ _ [some 1000000000, some 97, some 54] (by simp) (by simp) ?_ ⟨⟨_, rfl, .refl _⟩, rfl, ⟨_, rfl, .refl _⟩, rfl, ⟨_, rfl, by rw [hsn, qG]; exact .refl _⟩, rfl, trivial⟩) (by omega) (by omega)
      simp -implicitDefEqProofs only [wR', Nat.reduceBEq, Nat.reduceEqDiff, ↓reduceIte, q0lb h9 (by omega)]
     ·have h0 : ¬ i / 4 % 2 = 0 := by have : ¬ ((i / 4 % 2 : Nat) : Int) = 0 := by simpa using h
                                      omega
      rw [if_neg h0, List.append_nil] at hsn
      refine hn' _ (i + 1) (Weak.of _ _ [some 1000000000, some 97, some 98] (by simp) (by simp) ?_ ⟨⟨_, rfl, .refl _⟩, rfl, ⟨_, rfl, .refl _⟩, rfl, ⟨_, rfl, by rw [hsn]; exact .refl _⟩, rfl, trivial⟩) (by omega) (by omega)
      simp -implicitDefEqProofs only [wR', Nat.reduceBEq, Nat.reduceEqDiff, ↓reduceIte, q0lb h9 (by omega)]
    ·simp -implicitDefEqProofs only [eR', go_sem, decide_eq_false (show ¬ (i : Int) < 52 by omega)]
     refine he _ _ ?_
     rw [show i = 52 by omega]
     have hF : (((List.range 52).filter fun k => k / 4 % 2 == 0).map fun (k : Nat) => (k : Int)).length = 28 := by decide
     generalize (((List.range 52).filter fun k => k / 4 % 2 == 0).map fun (k : Nat) => (k : Int)) = F at hF
     simp -implicitDefEqProofs only [eR', go_sem]
     refine q006.exi (q1ts cs hc hl f hs5 F (by omega)) [1000000000, 98] [] rfl Tryz.call59 (by simp) ?_ (by simp) ?_ (.inl rfl) (fun y hy => ?_)
     ·simp -implicitDefEqProofs only [sR', Nat.reduceEqDiff, ↓reduceIte]
     ·simp -implicitDefEqProofs only [aR', go_sem]
     simp -implicitDefEqProofs only [cR', go_sem]
     obtain ⟨Y, g⟩ := y
     obtain ⟨hY1, hY2, hs6⟩ := hy
     (try simp only [] at hY1 hY2 hs6)
     (try simp only [])
     simp -implicitDefEqProofs only [eR', go_sem, intsO]
     refine ⟨by omega, ?_⟩
     obtain ⟨X, hX1, hX2⟩ : ∃ X : List Int × (Nat × Int), X.1 = Y.take D.length /\ X.2 = g := ⟨(Y.take D.length, g), rfl, rfl⟩
     refine q1s2 (Weak.trans (Weak.shareS 57 rfl) (Weak.of [(0, .own 1000000000), (6, .t (.i V)), (7, .t (.i P)), (8, .t (.i (hoOf V : Nat))), (9, .t (ints X.1))] [(1000000000, .box [bytes cs, .i X.2.1, .i X.2.2])] [some 1000000000] (by simp) (by simp) ?_ ⟨⟨_, rfl, by rw [hX2]; exact .refl _⟩, rfl, trivial⟩)) ?_
     ·have q1 : 0 < Y.length := by omega
      have q2 : D.length <= Y.length := by omega
      simp -implicitDefEqProofs only [wR', Nat.reduceBEq, Nat.reduceEqDiff, ↓reduceIte, q1th, hX1, T.toSh, q0vf, List.map_take, qJ, List.drop_zero, Nat.mul_one, Nat.zero_add, Nat.sub_zero, q1, q2]
     ·exact tail X ⟨by rw [hX1, qL]; omega, by rw [hX2]; exact hs6⟩
  ·obtain ⟨X, hX1, hX2⟩ : ∃ X : List Int × (Nat × Int), X.1 = D /\ X.2 = f := ⟨(D, f), rfl, rfl⟩
   refine q1s2 (Weak.trans (Weak.share 38 rfl) (Weak.of [(0, .own 1000000000), (6, .t (.i V)), (7, .t (.i P)), (8, .t (.i (hoOf V : Nat))), (9, .t (ints X.1))] [(1000000000, .box [bytes cs, .i X.2.1, .i X.2.2])] [some 1000000000] (by simp) (by simp) ?_ ⟨⟨_, rfl, by rw [hX2]; exact .refl _⟩, rfl, trivial⟩)) ?_
   ·simp -implicitDefEqProofs only [wR', Nat.reduceBEq, Nat.reduceEqDiff, ↓reduceIte, q0rg, hX1, T.toSh, q0vf]
   ·exact tail X ⟨by rw [hX1]; omega, by rw [hX2]; exact hs5⟩
 case t =>
  rintro ⟨C, g⟩ ⟨hC, hs6⟩
  (try simp only [] at hC hs6)
  simp -implicitDefEqProofs only [eR', go_sem]
  refine SemC.loopR (σ := Nat × List (List Int)) (fun s => St.of [(0, .own 1000000000), (6, .t (.i V)), (7, .t (.i P)), (8, .t (.i (hoOf V : Nat))), (9, .t (ints C)), (12, .own 97), (13, .t (.i s.1))] [(1000000000, .box [bytes cs, .i g.1, .i g.2]), (97, q0qa s.2)]) (fun s => s.1 <= P /\ s.2.length = s.1 /\ ∀ r ∈ s.2, r.length = hoOf V) (fun s => P - s.1) (0, []) (Weak.of _ _ [some 1000000000, some 61] (by simp) (by simp) ?_ ⟨⟨_, rfl, .refl _⟩, rfl, ⟨_, rfl, .refl _⟩, rfl, trivial⟩) ⟨by simp, rfl, by simp⟩ fun s hI R hn' hr he => ?_
  ·simp -implicitDefEqProofs only [wR', Nat.reduceBEq, Nat.reduceEqDiff, ↓reduceIte]
  obtain ⟨i, m⟩ := s
  obtain ⟨hi, hml, hmr⟩ := hI
  (try simp only [] at hi hml hmr)
  rcases qH i P with h9 | h9
  ·have hi1 : i * hoOf V + hoOf V <= P * hoOf V := by
    have := Nat.mul_le_mul_right (hoOf V) (show i + 1 <= P by omega)
    rw [Nat.add_mul] at this; omega
   have hw3 : IntKind.i64.wrap ((i : Int) * (hoOf V : Nat)) = ((i * hoOf V : Nat) : Int) := by rw [← Int.natCast_mul]; exact wrap64 (by omega) (by omega)
   have hw4 : IntKind.i64.wrap (((i * hoOf V : Nat) : Int) + (hoOf V : Nat)) = ((i * hoOf V + hoOf V : Nat) : Int) := by rw [wrap64 (by omega) (by omega)]; omega
   simp -implicitDefEqProofs only [eR', go_sem, decide_eq_true (show (i : Int) < (P : Int) by omega), hw3, hw4, q0qa]
   refine ⟨by omega, by omega, ?_⟩
   have hcut : List.take (i * hoOf V + hoOf V - i * hoOf V) (List.drop (i * hoOf V) (C.map T.i)) = ((C.drop (i * hoOf V)).take (hoOf V)).map T.i := by
    rw [← List.map_drop, ← List.map_take]; congr 2; omega
   rw [hcut]
   generalize hB : (C.drop (i * hoOf V)).take (hoOf V) = Bx
   have hBl : Bx.length = hoOf V := by rw [← hB, qL, List.length_drop]; omega
   refine q006.res (q0s5 Bx (by omega)) [] rfl Tryz.call43 ?_ (.inl rfl) ?_
   ·simp -implicitDefEqProofs only [aR', go_sem]
   simp -implicitDefEqProofs only [cR', go_sem, intsO]
   refine ⟨by omega, ?_⟩
   refine hn' _ (i + 1, m ++ [Bx]) (Weak.o _ _ [some 1000000000, some 80] ?_ ?_) ⟨by omega, ?_, ?_⟩ (by simp only []; omega)
   ·simp -implicitDefEqProofs only [wR', Nat.reduceBEq, Nat.reduceEqDiff, ↓reduceIte, q0lb h9 (by omega)]
   ·refine ⟨⟨_, rfl, .refl _⟩, rfl, ⟨_, rfl, ?_⟩, rfl, trivial⟩
    simp only [q0qa, intsO, qG, List.map_cons, List.map_nil]; exact .refl _
   ·simp only [qD, List.length_cons, List.length_nil]; omega
   ·intro r hr
    rcases qI.1 hr with hr | hr
    ·exact hmr r hr
    ·have : r = Bx := by simpa using hr
     subst this; exact hBl
  ·simp -implicitDefEqProofs only [eR', go_sem, decide_eq_false (show ¬ (i : Int) < (P : Int) by omega), q0qa]
   refine he _ _ ?_
   simp -implicitDefEqProofs only [eR', go_sem, hw1]
   refine ⟨by omega, by omega, ?_⟩
   have hcut : List.take (C.length - P * hoOf V) (List.drop (P * hoOf V) (C.map T.i)) = (C.drop (P * hoOf V)).map T.i := by
    rw [qQ (by rw [List.length_drop, qJ]; omega), List.map_drop]
   rw [hcut]
   generalize hB : C.drop (P * hoOf V) = Rs
   have hRl : 5 <= Rs.length /\ Rs.length <= 8 := by rw [← hB, List.length_drop]; omega
   have hp6 := q117 cs hc hl g hs6 [5, 4, 4, 5, 4, 4] (by simp) (by simp)
   simp only [intsO, List.map_cons, List.map_nil] at hp6
   refine q006.ref hp6 [1000000000, 87] [] rfl Tryz.call56 (by simp) ?_ (by simp) ?_ (.inl rfl) ?_
   ·simp -implicitDefEqProofs only [sR', Nat.reduceEqDiff, ↓reduceIte]
   ·simp -implicitDefEqProofs only [aR', go_sem]
   simp -implicitDefEqProofs only [cR', go_sem]
   have hm6 := q1tf (cs := cs) (a := g) (l := [5, 4, 4, 5, 4, 4]) (by simp)
   have hs7 := q116 (cs := cs) hl hs6 [5, 4, 4, 5, 4, 4]
   generalize q115 cs g [5, 4, 4, 5, 4, 4] = z at hm6 hs7 ⊢
   obtain ⟨n6, k⟩ := z
   simp only [] at hm6 hs7 ⊢
   obtain ⟨N6, rfl, hN6⟩ : ∃ N : Nat, n6 = N /\ (N = 4 ∨ N = 5) := ⟨n6.toNat, by simp at hm6; omega, by simp at hm6; omega⟩
   apply q1u2 (X := Nat × (Nat × Int)) (fun x => (x.1 = 3 ∨ x.1 = 4 ∨ x.1 = 5) /\ q0qx x.2)
   case h =>
    intro tail2
    have goon : ∀ (N : Nat) (q : Nat × Int), (N = 3 ∨ N = 4 ∨ N = 5) -> q0qx q -> ∃ X : Nat × (Nat × Int), X.1 = N /\ X.2 = q /\ ((X.1 = 3 ∨ X.1 = 4 ∨ X.1 = 5) /\ q0qx X.2) := fun N q h1 h2 => ⟨(N, q), rfl, rfl, h1, h2⟩
    refine ⟨fun h0 => ?_, fun h0 => ?_⟩
    ·refine q006.ref (q10p cs hc hl k hs7 40 (by omega)) [1000000000] [] rfl Tryz.call57 (by simp) ?_ (by simp) ?_ (.inl rfl) ?_
     ·simp -implicitDefEqProofs only [sR', Nat.reduceEqDiff, ↓reduceIte]
     ·simp -implicitDefEqProofs only [aR', go_sem]
     simp -implicitDefEqProofs only [cR', go_sem]
     have hs8 := q10o (cs := cs) hl hs7 40
     generalize q10m cs k 40 = z at hs8 ⊢
     obtain ⟨n40, k2⟩ := z
     simp only [] at hs8 ⊢
     refine ⟨fun h4 => ?_, fun h4 => ?_⟩
     ·obtain ⟨X, hX1, hX2, hX⟩ := goon 3 k2 (by omega) hs8
      refine q1s2 (Weak.of [(0, .own 1000000000), (6, .t (.i V)), (12, .own 97), (14, .t (ints Rs)), (15, .t (.i X.1))] [(1000000000, .box [bytes cs, .i X.2.1, .i X.2.2]), (97, .arr 1 (m.map intsO))] [some 1000000000, some 97] (by simp) (by simp) ?_ ⟨⟨_, rfl, by rw [hX2]; exact .refl _⟩, rfl, ⟨_, rfl, .refl _⟩, rfl, trivial⟩) ?_
      ·simp -implicitDefEqProofs only [wR', Nat.reduceBEq, Nat.reduceEqDiff, ↓reduceIte, hX1]
      ·exact tail2 X hX
     ·obtain ⟨X, hX1, hX2, hX⟩ := goon N6 k2 (by omega) hs8
      refine q1s2 (Weak.of [(0, .own 1000000000), (6, .t (.i V)), (12, .own 97), (14, .t (ints Rs)), (15, .t (.i X.1))] [(1000000000, .box [bytes cs, .i X.2.1, .i X.2.2]), (97, .arr 1 (m.map intsO))] [some 1000000000, some 97] (by simp) (by simp) ?_ ⟨⟨_, rfl, by rw [hX2]; exact .refl _⟩, rfl, ⟨_, rfl, .refl _⟩, rfl, trivial⟩) ?_
      ·simp -implicitDefEqProofs only [wR', Nat.reduceBEq, Nat.reduceEqDiff, ↓reduceIte, hX1]
      ·exact tail2 X hX
    ·obtain ⟨X, hX1, hX2, hX⟩ := goon N6 k (by omega) hs7
     refine q1s2 (Weak.of [(0, .own 1000000000), (6, .t (.i V)), (12, .own 97), (14, .t (ints Rs)), (15, .t (.i X.1))] [(1000000000, .box [bytes cs, .i X.2.1, .i X.2.2]), (97, .arr 1 (m.map intsO))] [some 1000000000, some 97] (by simp) (by simp) ?_ ⟨⟨_, rfl, by rw [hX2]; exact .refl _⟩, rfl, ⟨_, rfl, .refl _⟩, rfl, trivial⟩) ?_
     ·simp -implicitDefEqProofs only [wR', Nat.reduceBEq, Nat.reduceEqDiff, ↓reduceIte, hX1]
     ·exact tail2 X hX
   case t =>
    rintro ⟨N, q⟩ ⟨hN, hs9⟩
    (try simp only [] at hN hs9)
    have hcb : List.take (N - 0) (List.map T.i Rs) = (Rs.take N).map T.i := by rw [Nat.sub_zero, List.map_take]
    have hcd : List.take (Rs.length - 5) (List.drop 5 (List.map T.i Rs)) = (Rs.drop 5).map T.i := by
     rw [qQ (by rw [List.length_drop, qJ]; omega), List.map_drop]
    simp -implicitDefEqProofs only [eR', go_sem, hcb]
    refine ⟨by omega, by omega, ?_⟩
    generalize hBo : Rs.take N = Bo at hcb ⊢
    have hBl : Bo.length = N := by rw [← hBo, qL]; omega
    refine q000.res (q0s5 Bo (by omega)) [] rfl Tryz.call43 (fun e R' hR => ?_) (.inl rfl) ?_
    ·simp -implicitDefEqProofs only [aR', go_sem]
    simp -implicitDefEqProofs only [cR', go_sem, hcd, intsO]
    refine ⟨by omega, by omega, ?_⟩
    generalize hDe : Rs.drop 5 = De at hcd ⊢
    have hDl : De.length <= 3 := by rw [← hDe, List.length_drop]; omega
    refine q000.res (q0s5 De (by omega)) [] rfl Tryz.call43 (fun e R' hR => ?_) (.inl rfl) ?_
    ·simp -implicitDefEqProofs only [aR', go_sem]
    simp -implicitDefEqProofs only [cR', go_sem, intsO]
    refine q1s2 (Weak.trans (Weak.share 97 rfl) (Weak.of [(0, .own 1000000000), (6, .t (.i V)), (12, .t (rows m)), (16, .own 99), (17, .own 102)] [(1000000000, .box [bytes cs, .i q.1, .i q.2]), (99, .arr 1 (Bo.map T.i)), (102, .arr 1 (De.map T.i))] [some 1000000000, some 99, some 102] (by simp) (by simp) ?_ ⟨⟨_, rfl, .refl _⟩, rfl, ⟨_, rfl, .refl _⟩, rfl, ⟨_, rfl, .refl _⟩, rfl, trivial⟩)) ?_
    ·simp -implicitDefEqProofs only [wR', Nat.reduceBEq, Nat.reduceEqDiff, ↓reduceIte, q0rg, T.toSh, q0vg]
    simp -implicitDefEqProofs only [eR', go_sem]
    refine q006.ref (q10p cs hc hl q hs9 24 (by omega)) [1000000000] [] rfl Tryz.call57 (by simp) ?_ (by simp) ?_ (.inl rfl) ?_
    ·simp -implicitDefEqProofs only [sR', Nat.reduceEqDiff, ↓reduceIte]
    ·simp -implicitDefEqProofs only [aR', go_sem]
    simp -implicitDefEqProofs only [cR', go_sem]
    have hs10 := q10o (cs := cs) hl hs9 24
    generalize q10m cs q 24 = z at hs10 ⊢
    obtain ⟨w, u⟩ := z
    simp only [] at hs10 ⊢
    have hPm : m.length <= 3 := by omega
    have hmr4 : ∀ r ∈ m, r.length <= 4 := fun r hr => by rw [hmr r hr]; exact hho
    have hf12 : m.flatten.length <= 3 * 4 := rA (q1sn hmr4) (Nat.mul_le_mul_right 4 hPm)
    refine ⟨fun h4 => ?_, fun h4 => ⟨fun h0 => ?_, fun h0 => ⟨fun h1 => ?_, fun h1 => ⟨fun h2 => ?_, fun h2 => ⟨fun h3 => ?_, fun h3 => ?_⟩⟩⟩⟩⟩
    ·have hre := (q1px m Bo [] (by omega) (by omega) (by omega) (by simp)).nilA (args := [.t (rows m), .t (ints Bo), .t (.v (.slice none 0 0))]) rfl nil3
     have hlen : 52 <= (q1nk m Bo []).length + (Bo.length + m.flatten.length) := by
      have := q1ta ((Bo ++ []) ++ m.flatten)
      rw [List.append_nil, qD] at this
      rw [q1nk, List.append_nil]; exact this
     have h52 := q1nm m Bo []
     generalize q1nk m Bo [] = Ot at hre hlen h52
     refine q006.res hre [99] rfl Tryz.call60 ?_ (.inr (q0fh _)) ?_
     ·simp -implicitDefEqProofs only [aR', go_sem]
     simp -implicitDefEqProofs only [cR', go_sem]
     refine q1s2 (Weak.trans (Weak.share 109 rfl) (Weak.of [(0, .own 1000000000), (6, .t (.i V)), (12, .t (rows m)), (16, .own 99), (18, .t (ints Ot))] [(1000000000, .box [bytes cs, .i u.1, .i u.2]), (99, .arr 1 (Bo.map T.i))] [some 1000000000, some 99] (by simp) (by simp) ?_ ⟨⟨_, rfl, .refl _⟩, rfl, ⟨_, rfl, .refl _⟩, rfl, trivial⟩)) ?_
     ·simp -implicitDefEqProofs only [wR', Nat.reduceBEq, Nat.reduceEqDiff, ↓reduceIte, q0rg, q0fi]
     simp -implicitDefEqProofs only [eR', go_sem]
     refine q006.ref (q10p cs hc hl u hs10 3 (by omega)) [1000000000] [] rfl Tryz.call57 (by simp) ?_ (by simp) ?_ (.inl rfl) ?_
     ·simp -implicitDefEqProofs only [sR', Nat.reduceEqDiff, ↓reduceIte]
     ·simp -implicitDefEqProofs only [aR', go_sem]
     simp -implicitDefEqProofs only [cR', go_sem]
     have hb11 := q10n (cs := cs) (a := u) (show (1 : Int) <= 3 by omega)
     have hs11 := q10o (cs := cs) hl hs10 3
     generalize q10m cs u 3 = z at hb11 hs11 ⊢
     obtain ⟨y, u2⟩ := z
     simp only [] at hb11 hs11 ⊢
     obtain ⟨J, hJ, hJl⟩ : ∃ J : Nat, IntKind.i64.wrap ((Ot.length : Int) - y) = (J : Int) /\ J <= Ot.length := ⟨((Ot.length : Int) - y).toNat, by rw [wrap64 (by omega) (by omega)]; omega, by omega⟩
     rw [hJ]
     simp -implicitDefEqProofs only [eR', go_sem]
     refine ⟨by omega, by omega, ?_⟩
     have hcj : List.take (J - 0) (List.map T.i Ot) = (Ot.take J).map T.i := by rw [Nat.sub_zero, List.map_take]
     refine q1s2 (Weak.trans (Weak.share 99 rfl) (Weak.of [(6, .t (.i V)), (12, .t (rows m)), (16, .t (ints Bo)), (17, .t (ints (Ot.take J)))] [(1000000000, .box [bytes cs, .i u2.1, .i u2.2])] [some 1000000000] (by simp) (by simp) ?_ ⟨⟨_, rfl, .refl _⟩, rfl, trivial⟩)) ?_
     ·simp -implicitDefEqProofs only [wR', Nat.reduceBEq, Nat.reduceEqDiff, ↓reduceIte, q0rg, T.toSh, q0vf, hcj]
     simp -implicitDefEqProofs only [eR', go_sem]
     exact ⟨(((V, m), (Bo, Ot.take J)), u2), rfl, rfl, ⟨⟨by simp only []; omega, by simp only []; omega⟩, ⟨hPm, hmr4⟩, by simp only []; omega, by simp only [qL]; omega⟩, hs11⟩
    ·obtain ⟨r0, hr0⟩ : ∃ r, m[0]? = some r := ⟨_, qB (by omega)⟩
     have hr0l := hmr r0 (qE hr0)
     have hh2 : 2 <= hoOf V := by unfold hoOf; split <;> omega
     obtain ⟨c0, hc0⟩ : ∃ c, r0[0]? = some c := ⟨_, qB (by omega)⟩
     simp -implicitDefEqProofs only [eR', go_sem, hr0, hc0]
     refine ⟨by omega, by omega, by omega, by omega, by omega, by omega, ?_⟩
     refine q1s2 (Weak.trans (Weak.share 99 rfl) (Weak.trans (Weak.share 102 rfl) (Weak.of [(6, .t (.i V)), (12, .t (rows m)), (16, .t (ints (Bo.set 0 c0))), (17, .t (ints De))] [(1000000000, .box [bytes cs, .i u.1, .i u.2])] [some 1000000000] (by simp) (by simp) ?_ ⟨⟨_, rfl, .refl _⟩, rfl, trivial⟩))) ?_
     ·have hst : (Bo.map T.i).set 0 (T.i c0) = (Bo.set 0 c0).map T.i := by rw [List.map_set]
      simp -implicitDefEqProofs only [wR', Nat.reduceBEq, Nat.reduceEqDiff, ↓reduceIte, q0rg, hst, T.toSh, q0vf]
     simp -implicitDefEqProofs only [eR', go_sem]
     exact ⟨(((V, m), (Bo.set 0 c0, De)), u), rfl, rfl, ⟨⟨by simp only []; omega, by simp only []; omega⟩, ⟨hPm, hmr4⟩, by simp only [List.length_set]; omega, by simp only []; omega⟩, hs10⟩
    ·have hp7 := q117 cs hc hl u hs10 [-1, 1, 3] (by simp) (by simp)
     simp only [intsO, List.map_cons, List.map_nil] at hp7
     refine q006.ref hp7 [1000000000, 129] [] rfl Tryz.call56 (by simp) ?_ (by simp) ?_ (.inl rfl) ?_
     ·simp -implicitDefEqProofs only [sR', Nat.reduceEqDiff, ↓reduceIte]
     ·simp -implicitDefEqProofs only [aR', go_sem]
     simp -implicitDefEqProofs only [cR', go_sem]
     have hm7 := q1tf (cs := cs) (a := u) (l := [-1, 1, 3]) (by simp)
     have hs12 := q116 (cs := cs) hl hs10 [-1, 1, 3]
     generalize q115 cs u [-1, 1, 3] = z at hm7 hs12 ⊢
     obtain ⟨v7, u2⟩ := z
     simp only [] at hm7 hs12 ⊢
     have hv7 : -1 <= v7 /\ v7 <= 3 := by simp at hm7; omega
     refine q1s2 (Weak.trans (Weak.share 99 rfl) (Weak.trans (Weak.share 102 rfl) (Weak.of [(6, .t (.i v7)), (12, .t (rows m)), (16, .t (ints Bo)), (17, .t (ints De))] [(1000000000, .box [bytes cs, .i u2.1, .i u2.2])] [some 1000000000] (by simp) (by simp) ?_ ⟨⟨_, rfl, .refl _⟩, rfl, trivial⟩))) ?_
     ·simp -implicitDefEqProofs only [wR', Nat.reduceBEq, Nat.reduceEqDiff, ↓reduceIte, q0rg, T.toSh, q0vf]
     simp -implicitDefEqProofs only [eR', go_sem]
     exact ⟨(((v7, m), (Bo, De)), u2), rfl, rfl, ⟨hv7, ⟨hPm, hmr4⟩, by simp only []; omega, by simp only []; omega⟩, hs12⟩
    ·refine q1s2 (Weak.trans (Weak.share 99 rfl) (Weak.trans (Weak.share 102 rfl) (Weak.of [(6, .t (.i V)), (12, .t (rows m)), (16, .t (ints Bo)), (17, .t (ints De))] [(1000000000, .box [bytes cs, .i u.1, .i u.2])] [some 1000000000] (by simp) (by simp) ?_ ⟨⟨_, rfl, .refl _⟩, rfl, trivial⟩))) ?_
     ·simp -implicitDefEqProofs only [wR', Nat.reduceBEq, Nat.reduceEqDiff, ↓reduceIte, q0rg, T.toSh, q0vf]
     simp -implicitDefEqProofs only [eR', go_sem]
     refine ⟨by omega, by omega, ?_⟩
     have hcm : List.take (m.length - 1) (List.drop 1 (List.map ints m)) = (m.drop 1).map ints := by
      rw [qQ (by rw [List.length_drop, qJ]; omega), List.map_drop]
     rw [hcm]
     exact ⟨(((V, m.drop 1), (Bo, De)), u), rfl, rfl, ⟨⟨by simp only []; omega, by simp only []; omega⟩, ⟨by simp only [List.length_drop]; omega, fun r hr => hmr4 r (List.mem_of_mem_drop hr)⟩, by simp only []; omega, by simp only []; omega⟩, hs10⟩
    ·refine q1s2 (Weak.trans (Weak.share 99 rfl) (Weak.of [(6, .t (.i V)), (12, .t (rows m)), (16, .t (ints Bo)), (17, .own 102)] [(1000000000, .box [bytes cs, .i u.1, .i u.2]), (102, .arr 1 (De.map T.i))] [some 1000000000, some 102] (by simp) (by simp) ?_ ⟨⟨_, rfl, .refl _⟩, rfl, ⟨_, rfl, .refl _⟩, rfl, trivial⟩)) ?_
     ·simp -implicitDefEqProofs only [wR', Nat.reduceBEq, Nat.reduceEqDiff, ↓reduceIte, q0rg, T.toSh, q0vf]
     simp -implicitDefEqProofs only [eR', go_sem]
     refine ⟨by omega, ?_⟩
     have hc2 : List.take (2 - 0) (List.map T.i Bo) = (Bo.take 2).map T.i := by rw [Nat.sub_zero, List.map_take]
     refine q1s2 (Weak.trans (Weak.share 102 rfl) (Weak.of [(6, .t (.i V)), (12, .t (rows m)), (16, .t (ints (Bo.take 2))), (17, .t (ints De))] [(1000000000, .box [bytes cs, .i u.1, .i u.2])] [some 1000000000] (by simp) (by simp) ?_ ⟨⟨_, rfl, .refl _⟩, rfl, trivial⟩)) ?_
     ·simp -implicitDefEqProofs only [wR', Nat.reduceBEq, Nat.reduceEqDiff, ↓reduceIte, q0rg, T.toSh, q0vf, hc2]
     simp -implicitDefEqProofs only [eR', go_sem]
     exact ⟨(((V, m), (Bo.take 2, De)), u), rfl, rfl, ⟨⟨by simp only []; omega, by simp only []; omega⟩, ⟨hPm, hmr4⟩, by simp only [qL]; omega, by simp only []; omega⟩, hs10⟩
    ·refine q1s2 (Weak.trans (Weak.share 99 rfl) (Weak.trans (Weak.share 102 rfl) (Weak.of [(6, .t (.i V)), (12, .t (rows m)), (16, .t (ints Bo)), (17, .t (ints De))] [(1000000000, .box [bytes cs, .i u.1, .i u.2])] [some 1000000000] (by simp) (by simp) ?_ ⟨⟨_, rfl, .refl _⟩, rfl, trivial⟩))) ?_
     ·simp -implicitDefEqProofs only [wR', Nat.reduceBEq, Nat.reduceEqDiff, ↓reduceIte, q0rg, T.toSh, q0vf]
     simp -implicitDefEqProofs only [eR', go_sem]
     exact ⟨(((V, m), (Bo, De)), u), rfl, rfl, ⟨⟨by simp only []; omega, by simp only []; omega⟩, ⟨hPm, hmr4⟩, by simp only []; omega, by simp only []; omega⟩, hs10⟩
end
section
attribute [-go_sem] q0i5 q0id fldC lenC idxC q0ip cW.eq_10
end

theorem q10g (cs : List Int) : Pure Tryz.prog 17 [bytes cs] (.b (decide ((cs.length : Int) > 4096))) := by
 refine q0zf (by simp) ?_
 simp -implicitDefEqProofs only [eR', go_sem, q0ya, bytes]
theorem q1t9 (l : List Int) (h : q0rv l) : Pure Tryz.prog 23 [ints l] (.i l.sum) := by
 have hl := h.1
 refine q18q (by simp) ?_
 simp -implicitDefEqProofs only [eR', go_sem, q18g]
 refine SemC.loopR (σ := Nat) (fun i => St.of [(0, .t (ints l)), (3, .t (.i (l.take i).sum)), (4, .t (.i i))] []) (fun i => i <= l.length) (fun i => l.length - i) 0 (Weak.o _ [] [] ?_ trivial) (by omega) fun i hi R hn hr he => ?_
 ·simp -implicitDefEqProofs only [wR', Nat.reduceBEq, Nat.reduceEqDiff, ↓reduceIte, List.take_zero, List.sum_nil]
 ·simp -implicitDefEqProofs only [eR', go_sem]
  refine ⟨fun h1 => ⟨by omega, by omega, by omega, fun x hx => ?_⟩, fun h1 => he _ _ ?_⟩
  ·have e := q0ud (l.take i) x
   rw [← q0uj hx] at e
   have hb := q0rw h (i + 1)
   refine hn _ (i + 1) (Weak.o _ [] [] ?_ trivial) (by omega) (by omega)
   simp -implicitDefEqProofs only [wR', Nat.reduceBEq, Nat.reduceEqDiff, ↓reduceIte, q0lb (by omega : i < l.length) (by omega), ← e, wrap64 (n := (l.take (i + 1)).sum) (by omega) (by omega)]
  ·simp -implicitDefEqProofs only [eR', go_sem]
   rw [qQ (by omega)]
theorem q1v8 (a b : List (Int × Int)) (ha : a.length <= 1000000000000) (hb : b.length <= 1000000000000) : Pure Tryz.prog 19 [rats a, rats b] (.b (decide (a = b))) := by
 refine q1uw (by simp) ?_
 simp -implicitDefEqProofs only [eR', go_sem, q1uh]
 refine ⟨fun h => ?_, fun h => ?_⟩
 ·have : a ≠ b := by rintro rfl; simp at h
  simp [this]
 ·have hab : a.length = b.length := by simp at h; omega
  refine SemC.loopR (σ := Nat) (fun i => St.of [(0, .t (rats a)), (1, .t (rats b)), (5, .t (.i i))] []) (fun i => i <= a.length /\ ∀ j, j < i -> a[j]? = b[j]?) (fun i => a.length - i) 0 (Weak.o _ [] [] ?_ trivial) ⟨by simp, fun j hj => by omega⟩ fun i hI R hn hr he => ?_
  ·simp -implicitDefEqProofs only [wR', Nat.reduceBEq, Nat.reduceEqDiff, ↓reduceIte, rats]
  ·simp -implicitDefEqProofs only [eR', go_sem]
   refine ⟨fun h => ?_, fun h => he _ _ ?_⟩
   ·obtain ⟨x, hx⟩ : ∃ x, a[i]? = some x := ⟨_, qB (by omega)⟩
    obtain ⟨y, hy⟩ : ∃ y, b[i]? = some y := ⟨_, qB (by omega)⟩
    refine ⟨by omega, by rw [q0p0]; omega, by rw [q0p0]; omega, by omega, by rw [q0p0]; omega, by rw [q0p0]; omega, ?_⟩
    rw [q1n9 hx, q1n9 hy]
    simp -implicitDefEqProofs only [eR', go_sem]
    refine ⟨fun h1 => hr _ ?_, fun h1 => hn _ (i + 1) (Weak.o _ [] [] ?_ trivial) ⟨by omega, fun j hj => ?_⟩ (by omega)⟩
    ·simp -implicitDefEqProofs only [eR', go_sem]
     have : a ≠ b := by rintro rfl; rw [hx] at hy; cases hy; simp at h1
     simp [this]
    ·simp -implicitDefEqProofs only [wR', Nat.reduceBEq, Nat.reduceEqDiff, ↓reduceIte, rats, q0lb (by omega : i < a.length) ha]
    ·rcases qH j i with h | h
     ·exact hI.2 j h
     ·have : j = i := by omega
      subst this
      rw [hx, hy]
      have h2 : x.1 = y.1 /\ x.2 = y.2 := by simpa using h1
      rw [Prod.ext h2.1 h2.2]
   ·simp -implicitDefEqProofs only [eR', go_sem]
    have : a = b := by
     refine List.ext_getElem? fun j => ?_
     rcases qH j i with h | h
     ·exact hI.2 j h
     ·rw [qP (by omega), qP (by omega)]
    simp [this]

theorem fits {n d N D : Int} (hd : 0 < d) (hD : 0 < D) (e : n * D = N * d) (h1 : -1000000000 <= N) (h2 : N <= 1000000000) (h3 : D <= 1000000000) : (redR n d).2 = 0 := by
 obtain ⟨a, ha⟩ := q1uz n d
 obtain ⟨b, hb⟩ := q1v0 n d
 have hg := q1ht n d hd
 have hg' : (gcdI n d : Int) ≠ 0 := by omega
 have e1 : n.tdiv (gcdI n d) = a := by
  generalize (gcdI n d : Int) = g at ha hg'
  rw [ha]; exact Int.mul_tdiv_cancel_left _ hg'
 have e2 : d.tdiv (gcdI n d) = b := by
  generalize (gcdI n d : Int) = g at hb hg'
  rw [hb]; exact Int.mul_tdiv_cancel_left _ hg'
 have hco : gcdI a b = 1 := by
  have h4 : gcdI (gcdI n d * a) (gcdI n d * b) = gcdI n d * gcdI a b := by
   unfold gcdI
   rw [Int.natAbs_mul, Int.natAbs_mul, Nat.gcd_mul_left]; simp
  rw [← ha, ← hb] at h4
  have h5 : gcdI n d * 1 = gcdI n d * gcdI a b := by omega
  exact (Nat.eq_of_mul_eq_mul_left hg h5).symm
 have hb0 : 0 < b := by
  rcases Int.lt_trichotomy b 0 with h | h | h
  ·have := Int.mul_neg_of_pos_of_neg (show (0 : Int) < gcdI n d by omega) h
   omega
  ·rw [h] at hb; simp at hb; omega
  ·exact h
 have e3 : a * D = N * b := by
  have h6 : (gcdI n d : Int) * (a * D) = gcdI n d * (N * b) := by
   rw [← Int.mul_assoc, ← ha, e]
   conv => lhs; rw [hb]
   grind
  exact Int.eq_of_mul_eq_mul_left hg' h6
 have hbD : b <= D := by
  have h7 : b.natAbs ∣ a.natAbs * D.natAbs := ⟨N.natAbs, by rw [← Int.natAbs_mul, e3, Int.natAbs_mul, Nat.mul_comm]⟩
  have h8 : Nat.Coprime b.natAbs a.natAbs := by
   have : Nat.Coprime a.natAbs b.natAbs := hco
   exact this.symm
  have h9 := Nat.le_of_dvd (by omega) (h8.dvd_of_dvd_mul_left h7)
  omega
 have haN : a.natAbs <= N.natAbs := by
  have h7 : a.natAbs * D.natAbs = N.natAbs * b.natAbs := by rw [← Int.natAbs_mul, e3, Int.natAbs_mul]
  have h8 : N.natAbs * b.natAbs <= N.natAbs * D.natAbs := Nat.mul_le_mul_left _ (by omega)
  rw [← h7] at h8
  exact Nat.le_of_mul_le_mul_right h8 (by omega)
 have hr : q1jw (a, b) = true := by
  simp only [q1jw, qM, decide_eq_true_eq]
  exact ⟨⟨by omega, by omega⟩, hco⟩
 unfold redR
 rw [e1, e2, if_pos hr]
theorem q1vg {n d : Int} (hd : 0 < d) (h : (redR n d).2 = 0) : (redR n d).1.1 * d = n * (redR n d).1.2 /\ q1jw (redR n d).1 = true := by
 unfold redR at h ⊢
 split
 ·rename_i h1
  refine ⟨?_, h1⟩
  obtain ⟨a, ha⟩ := q1uz n d
  obtain ⟨b, hb⟩ := q1v0 n d
  have hg := q1ht n d hd
  have hg' : (gcdI n d : Int) ≠ 0 := by omega
  have e1 : n.tdiv (gcdI n d) = a := by
   generalize (gcdI n d : Int) = g at ha hg'
   rw [ha]; exact Int.mul_tdiv_cancel_left _ hg'
  have e2 : d.tdiv (gcdI n d) = b := by
   generalize (gcdI n d : Int) = g at hb hg'
   rw [hb]; exact Int.mul_tdiv_cancel_left _ hg'
  simp only [e1, e2]
  generalize (gcdI n d : Int) = g at ha hb
  rw [ha, hb]; grind
 ·rename_i h1; rw [if_neg h1] at h; simp at h
def isQ (D s : Int) (x : Int × Int) : Prop := q1jw x = true /\ x.1 * D = s * x.2
theorem q1vf {D s : Int} (hD : 0 < D) (hb : D <= 10000000) (h0 : 0 <= s) (h1 : s <= D) : isQ D s (redR s D).1 /\ (redR s D).2 = 0 := by
 have h2 : (redR s D).2 = 0 := fits hD hD rfl (by omega) (by omega) (by omega)
 obtain ⟨h3, h4⟩ := q1vg hD h2
 exact ⟨⟨h4, h3⟩, h2⟩
section
attribute [-go_sem] q0i5 q0id fldC lenC idxC q0ip
theorem q20u (n d : Int) (n0 : 0 <= n) (n1 : n <= 1000000000) (d0 : 1 <= d) (d1 : d <= 1000000000) : Fun Tryz.prog 22 [] [.t (.i n), .t (.i d)] fun o r => o = [] /\ r = redT (redR n d) := by
 have hw1 := q0f9 n (-1000000000) 1000000000
 have hw2 := q0f9 d 1 1000000000
 rw [decide_eq_true (show -1000000000 <= n /\ n <= 1000000000 by omega)] at hw1
 rw [decide_eq_true (show 1 <= d /\ d <= 1000000000 by omega)] at hw2
 refine q20r (by simp) ?_
 simp -implicitDefEqProofs only [eR', go_sem, q20m]
 refine q006.p hw1 [] rfl Tryz.call40 ?_ ?_
 ·simp -implicitDefEqProofs only [aR', go_sem]
 simp -implicitDefEqProofs only [eR', go_sem]
 refine q006.p hw2 [] rfl Tryz.call40 ?_ ?_
 ·simp -implicitDefEqProofs only [aR', go_sem]
 simp -implicitDefEqProofs only [eR', go_sem]
 refine q006.res (q1jo n d (by omega) (by omega) (by omega) (by omega)) [] rfl Tryz.call31 ?_ (.inl rfl) ?_
 ·simp -implicitDefEqProofs only [aR', go_sem]
 simp -implicitDefEqProofs only [cR', go_sem, redT]
theorem q20p {k : Nat} {holes : List (List Int)} {b : List Int} {c : Int} (h : q1ec k holes b []) (h4 : b.length = 4) (hc : 0 <= c /\ c < 52) (hn : ∀ s ∈ q1yy holes b, c ∉ s) : q1ec k holes (b ++ [c]) [] := by
 obtain ⟨h1, h2, h3, h5, h6, hcd⟩ := h
 refine ⟨h1, h2, by rw [qD]; simp; omega, by rw [qD]; simp; omega, h6, ?_⟩
 rw [List.append_nil] at hcd ⊢
 have hp : (c :: (b ++ holes.flatten)).Perm ((b ++ [c]) ++ holes.flatten) := by
  rw [qW]
  exact List.perm_middle.symm
 refine q1cw hp ⟨qX.2 ⟨fun hm => ?_, hcd.1⟩, fun x hx => ?_⟩
 ·rcases qI.1 hm with hm | hm
  ·exact hn b (by simp [q1yy]) hm
  ·obtain ⟨s, hs, hm⟩ := rY.1 hm
   exact hn s (by simp [q1yy, hs]) hm
 ·rcases qO.1 hx with rfl | hx
  ·exact hc
  ·exact hcd.2 x hx
theorem q20q {v : Int} {holes : List (List Int)} {b : List Int} (h : (q1xc v holes b).2 = 0) : ∃ k : Nat, v = k /\ k <= 2 /\ q1ec k holes b [] /\ b.length = 4 /\ q1xc v holes b = ((q1qc k holes b []).map (q1en (q1ak holes b []).length), 0) := by
 unfold q1xc at h ⊢
 by_cases h1 : q1eb v holes b [] = false
 ·rw [if_pos h1] at h; simp at h
 ·rw [if_neg h1] at h ⊢
  by_cases h4 : b.length = 4
  ·rw [if_pos h4]
   obtain ⟨k, rfl, hk, hp⟩ := q1sm (by simpa using h1)
   have hpos := q1w1 hp h4
   exact ⟨k, rfl, hk, hp, h4, by rw [q1eo, if_neg h1, if_neg (by omega), Int.toNat_natCast]⟩
  ·rw [if_neg h4] at h; simp at h
theorem q20w {k : Nat} (hk : k <= 2) {holes : List (List Int)} {b : List Int} (h : q1ec k holes b []) (h5 : b.length = 5) : q1tc k holes b = (q1o6 k holes b, 0) := by
 have hd : q1eb k holes b [] = true := by
  rw [q1eb, qM, decide_eq_true_eq, decide_eq_true_eq, Int.toNat_natCast]; exact ⟨by omega, h⟩
 rw [q1tc, hd, if_neg (by simp), if_pos h5, Int.toNat_natCast]
theorem q20x (cs : List Int) (hc : q161 cs) (hl : cs.length <= 100000000000) : Fun Tryz.prog 18 [] [.t (bytes cs)] fun o r => ∃ x : Int × (List (List Int) × List Int), o = [] /\ r = .tup [.i x.1, rows x.2.1, ints x.2.2] /\ ((x.2.1.length <= 3 /\ ∀ r ∈ x.2.1, r.length <= 4) /\ x.2.2.length <= 5) := by
 refine q20t (by simp) ?_
 simp -implicitDefEqProofs only [eR', go_sem, q20o]
 refine q006.res (q11z cs hc (by omega)) [] rfl Tryz.call34 ?_ (.inl rfl) ?_
 ·simp -implicitDefEqProofs only [aR', go_sem]
 simp -implicitDefEqProofs only [cR', go_sem, srcT]
 have hs0 := q11l (cs.take 64)
 generalize q0za (cs.take 64) = sd at hs0 ⊢
 refine q006.exi (q1tu cs hc hl (0, sd) hs0) [11] [] rfl Tryz.call33 (by simp) ?_ (by simp) ?_ (.inl rfl) (fun x hx => ?_)
 ·simp -implicitDefEqProofs only [sR', Nat.reduceEqDiff, ↓reduceIte]
 ·simp -implicitDefEqProofs only [aR', go_sem]
 simp -implicitDefEqProofs only [cR', go_sem, q1sl, rows, ints]
 obtain ⟨⟨⟨v, m⟩, B, D⟩, u⟩ := x
 obtain ⟨⟨h1, h2, h3, h4⟩, _⟩ := hx
 exact ⟨(v, m, B), rfl, h2, h3⟩
end
section
attribute [-go_sem] q0i5 q0id fldC lenC idxC q0ip
theorem q1vl {l : List Int} (h : ∀ x ∈ l, 0 <= x) : ∀ i, 0 <= (l.take i).sum /\ (l.take i).sum <= l.sum := by
 induction l with
 | nil => intro i; simp
 | cons a l ih =>
   intro i
   have ha := h a (by simp)
   have ih := ih fun x hx => h x (by simp [hx])
   cases i with
   | zero => have := ih l.length; rw [rT] at this; simp only [List.take_zero, List.sum_nil, rZ]; omega
   | succ i => have := ih i; simp only [List.take_succ_cons, rZ]; omega
end
section
attribute [-go_sem] q0i5 q0id fldC lenC idxC q0ip
theorem q20v (cs : List Int) (hc : q161 cs) (hl : cs.length <= 9223372036854775807) : Pure Tryz.prog 4 [bytes cs] (.b true) := by
 refine q20s (by simp) ?_
 simp -implicitDefEqProofs only [eR', go_sem, q20n]
 refine q006.p (q10g cs) [] rfl Tryz.call17 ?_ ?_
 ·simp -implicitDefEqProofs only [aR', go_sem]
 simp -implicitDefEqProofs only [eR', go_sem]
 refine ⟨fun _ => trivial, fun hbg => ?_⟩
 have hl : cs.length <= 100000000000 := by simp at hbg; omega
 refine q006.exi (q20x cs hc hl) [] [] rfl Tryz.call18 (by simp) ?_ (by simp) ?_ (.inl rfl) (fun y hy => ?_)
 ·simp -implicitDefEqProofs only [sR', Nat.reduceEqDiff, ↓reduceIte]
 ·simp -implicitDefEqProofs only [aR', go_sem]
 simp -implicitDefEqProofs only [cR', go_sem, rows, ints]
 obtain ⟨v, m, B⟩ := y
 obtain ⟨⟨h2, h2'⟩, h3⟩ := hy
 (try simp only [] at h2 h2' h3)
 (try simp only [])
 have hmf := rA (q1sn h2') (Nat.mul_le_mul_right 4 h2)
 have hei := q1y9 v m B (by omega) (by omega) (by omega)
 have hes := q1zh v m B (by omega) (by omega) (by omega)
 have hel := q1xd v m B
 have hfa := fun h => q20q (v := v) (holes := m) (b := B) h
 generalize q1xc v m B = er at hei hes hel hfa
 obtain ⟨E, ec⟩ := er
 simp only [eqO] at hei hes hel hfa
 refine q006.res hei [] rfl Tryz.call9 ?_ (.inl rfl) ?_
 ·simp -implicitDefEqProofs only [aR', go_sem]
 simp -implicitDefEqProofs only [cR', go_sem]
 refine q006.res hes [] rfl Tryz.call6 ?_ (.inl rfl) ?_
 ·simp -implicitDefEqProofs only [aR', go_sem]
 simp -implicitDefEqProofs only [cR', go_sem]
 have hlk := q1v8 E E (by omega) (by omega)
 refine q006.p hlk [33, 40] rfl Tryz.call19 ?_ ?_
 ·simp -implicitDefEqProofs only [aR', go_sem]
 simp -implicitDefEqProofs only [eR', go_sem]
 refine ⟨fun _ => trivial, fun h0 => ?_⟩
 have h0 : ec = 0 := by simpa using h0
 obtain ⟨k, rfl, hk, hp, h4, e1⟩ := hfa h0
 simp only [Prod.mk.injEq] at e1
 obtain ⟨rfl, rfl⟩ := e1
 clear hfa hes hei hlk
 obtain ⟨hne, h6, hfl⟩ := q1x9 hp
 have hnc := q1ya (q1yy m B) h6 hfl hne
 have hf1 := q1zx hk hp h4
 have hf2 := q1x3 hp h4
 have hpos := q1w1 hp h4
 have hfew := q1al (holes := m) (dead := []) hp.2.2.1
 have hn4 := hp.2.1
 have hn2 := hp.1
 have hcl : ∀ c ∈ clsL (q1yy m B), (0 <= c /\ c < 52) /\ ∀ s ∈ q1yy m B, c ∉ s := fun c hc => ⟨(q1ws.1 hc).1, (q1ws.1 hc).2.1⟩
 have hc52 : (clsL (q1yy m B)).length <= 52 := q1wq _ 52
 have hz := q202 (q1yy m B)
 have hsz : szTo (q1yy m B) 52 = (clsL (q1yy m B)).map (szF (q1yy m B)) := rfl
 rw [hsz] at hnc
 have hfb := q1zw k m B _ hz (clsL (q1yy m B))
 have hfl2 := q1zy k m B (szF (q1yy m B)) (clsL (q1yy m B))
 have hfs : ∀ i, sumF k m B (szF (q1yy m B)) (clsL (q1yy m B)) (i + 1) = addL (sumF k m B (szF (q1yy m B)) (clsL (q1yy m B)) i) ((q1o6 k m (B ++ [(clsL (q1yy m B)).getD i 0])).map fun y => y * szF (q1yy m B) ((clsL (q1yy m B)).getD i 0)) := fun i => rfl
 have hss := q1vk hk hp
 have hsb2 := q1q6 k m (q1ak m B []) (q1ak m B []).length
 change ∀ x ∈ q1qc k m B [], _ at hsb2
 generalize hzf : szF (q1yy m B) = z at *
 generalize clsL (q1yy m B) = C at *
 obtain ⟨Zl, hZl⟩ : ∃ Zl, Zl = C.map z := ⟨_, rfl⟩
 have hZlen : Zl.length = C.length := by rw [hZl, qJ]
 have hZat : ∀ i c, C[i]? = some c -> Zl[i]? = some (z c) := fun i c h => by rw [hZl, qU, h]; rfl
 have hsmall : q0rv Zl := by
  refine ⟨by omega, fun x hx => ?_⟩
  rw [hZl] at hx
  obtain ⟨c, _, rfl⟩ := qN.1 hx
  have := hz c
  omega
 have hZs : Zl.sum = cntF z C C.length := by rw [cntF, rT, hZl]
 rw [← hZl] at hnc
 clear hZl hsz
 generalize q1qc k m B [] = SS at *
 generalize (q1ak m B []).length = N at *
 have hsetsh : (T.arr 1 (List.map ints m ++ [T.sh 1 (List.map T.i B)])).toSh = rows (q1yy m B) := q1yz m B
 refine ⟨rO.2 fun x hx => by obtain ⟨r, _, rfl⟩ := qN.1 hx; rfl, by omega, by omega, ?_⟩
 refine q006.res hnc [60] rfl Tryz.call20 ?_ (.inr ⟨q0fh _, q0fh _, trivial, trivial⟩) ?_
 ·simp -implicitDefEqProofs only [aR', go_sem, hsetsh]
 simp -implicitDefEqProofs only [cR', go_sem, intsO, hZlen, bne_self_eq_false]
 refine ⟨by omega, by omega, ?_⟩
 refine SemC.loopR (σ := Nat) (fun i => St.of [(3, .t (.i k)), (4, .t (rows m)), (5, .t (ints B)), (6, .own 601), (10, .t (ints C)), (11, .t (ints Zl)), (13, .own 602), (14, .t (.i i))] [(601, q0p1 (SS.map (q1en N))), (602, intsO (sumF k m B z C i))]) (fun i => i <= C.length) (fun i => C.length - i) 0 (Weak.trans (Weak.share 61 rfl) (Weak.trans (Weak.share 62001 rfl) (Weak.of _ _ [some 33, some 76] (by simp) (by simp) ?_ ⟨⟨_, rfl, .refl _⟩, rfl, ⟨_, rfl, ?_⟩, rfl, trivial⟩))) (by omega) fun i hi R hn hr he => ?_
 ·have e1 : ∀ l : List Int, (T.arr 1 (List.map T.i l)).toSh = T.sh 1 (List.map T.i l) := q0fi
  simp -implicitDefEqProofs only [wR', Nat.reduceBEq, Nat.reduceEqDiff, ↓reduceIte, q0rg, e1]
 ·rw [sumF, q0jc, intsO, List.map_replicate]; exact .refl _
 ·rcases qH i C.length with h9 | h9
  ·obtain ⟨c, hx⟩ : ∃ c, C[i]? = some c := ⟨_, qB h9⟩
   have hg : C.getD i 0 = c := by rw [qA, hx]; rfl
   obtain ⟨hc0, hcn⟩ := hcl c (qE hx)
   have hZx := hZat i c hx
   have hz1 := hz c
   have hS := hfs i
   rw [hg] at hS
   have hsb := hfb i
   have hsl := hfl2 i
   have hpl := q1ow k m (B ++ [c])
   have hpb : ∀ x ∈ q1o6 k m (B ++ [c]), 0 <= x /\ x <= 48 := by rw [q1o6]; exact q19z _ _ _
   have hparts := q1t5 k m (B ++ [c]) (by omega) (by omega) (by rw [qD]; simp; omega)
   rw [q20w hk (q20p hp h4 hc0 hcn) (by rw [qD, h4]; rfl), show ints (B ++ [c]) = .sh 1 (List.map T.i B ++ [T.i c]) by rw [ints, qG]; rfl] at hparts
   have hnext : sumF k m B z C (i + 1) = addL (sumF k m B z C i) ((q1o6 k m (B ++ [c])).map fun y => y * z c) := hS
   generalize sumF k m B z C i = S0 at *
   generalize q1o6 k m (B ++ [c]) = D at *
   simp only [paO] at hparts
   have hshd : (T.arr 1 (List.map T.i B ++ [T.i c])).toSh = .sh 1 (List.map T.i B ++ [T.i c]) := by
    have := q0fi (B ++ [c])
    rwa [intsO, ints, qG] at this
   simp -implicitDefEqProofs only [eR', go_sem, hx, hZx, hZlen, decide_eq_true (show (i : Int) < (C.length : Int) by omega)]
   refine ⟨by omega, ⟨by omega, by omega, by omega, by omega, ?_, ((q09v.refl _ _ _).upd _ (.inl (by simp))).upd _ (.inr rfl)⟩, ((q09v.refl _ _ _).upd _ (.inl (by simp))).upd _ (.inr rfl)⟩
   refine q000.res hparts [94] rfl Tryz.call21 (fun e R' hR => ?_) (.inr ⟨q0fh _, trivial, trivial⟩) ?_
   ·have hq94 := (hR 94).resolve_left (by simp -implicitDefEqProofs only [eR', go_sem, not_false_eq_true])
    simp -implicitDefEqProofs only [eR', go_sem] at hq94
    simp -implicitDefEqProofs only [aR', go_sem, hq94, hshd]
   simp -implicitDefEqProofs only [cR', go_sem, intsO, hsl, hpl, bne_self_eq_false]
   refine SemC.loopR (σ := Nat) (fun j => St.of [(3, .t (.i k)), (4, .t (rows m)), (5, .t (ints B)), (6, .own 601), (10, .t (ints C)), (11, .t (ints Zl)), (13, .own 602), (14, .t (.i i)), (15, .own 603), (17, .t (.i j))] [(601, q0p1 (SS.map (q1en N))), (602, intsO (adTo S0 (D.map fun y => y * z c) j)), (603, intsO D)]) (fun j => j <= D.length) (fun j => D.length - j) 0 (Weak.of _ _ [some 601, some 602, some 95] (by simp) (by simp) ?_ ⟨⟨_, rfl, .refl _⟩, rfl, ⟨_, rfl, by rw [q19p]; exact .refl _⟩, rfl, ⟨_, rfl, .refl _⟩, rfl, trivial⟩) (by omega) fun j hj R2 hn2 hr2 he2 => ?_
   ·simp -implicitDefEqProofs only [wR', Nat.reduceBEq, Nat.reduceEqDiff, ↓reduceIte]
   ·have hal : (adTo S0 (D.map fun y => y * z c) j).length = m.length := by rw [adTo, q1qk, hsl]
    rcases qH j D.length with h8 | h8
    ·obtain ⟨y, hy⟩ : ∃ y, D[j]? = some y := ⟨_, qB h8⟩
     have hyb := hpb y (qE hy)
     have hset := q19o S0 (D.map fun y => y * z c) j
     rw [q1yo, show D.getD j 0 = y by rw [qA, hy]; rfl] at hset
     have hP : (adTo S0 (D.map fun y => y * z c) j)[j]? = some (S0.getD j 0) := by rw [adTo, q1qj (by omega), if_neg (by omega)]
     have hSb : 0 <= S0.getD j 0 /\ S0.getD j 0 <= 1152 * (i : Int) := by
      obtain ⟨w, hw⟩ : ∃ w, S0[j]? = some w := ⟨_, qB (by omega)⟩
      rw [qA, hw]; exact hsb w (qE hw)
     have hm0 : 0 <= y * z c := Int.mul_nonneg hyb.1 hz1.1
     have hm1 : y * z c <= 48 * 24 := Int.mul_le_mul hyb.2 hz1.2 hz1.1 (by decide)
     have hw1 : IntKind.i64.wrap (z c * y) = y * z c := by rw [Int.mul_comm]; exact wrap64 (by omega) (by omega)
     have hw2 : IntKind.i64.wrap (S0.getD j 0 + y * z c) = S0.getD j 0 + y * z c := wrap64 (by omega) (by omega)
     simp -implicitDefEqProofs only [eR', go_sem, intsO, hy, hP, hal, hZx, hZlen, hw1, hw2, decide_eq_true (show (j : Int) < (D.length : Int) by omega)]
     refine ⟨by omega, by omega, by omega, by omega, by omega, by omega, by omega, by omega, by omega, by omega, by omega, by omega, ?_⟩
     refine hn2 _ (j + 1) (Weak.of _ _ [some 601, some 602, some 603] (by simp) (by simp) ?_ ⟨⟨_, rfl, .refl _⟩, rfl, ⟨_, rfl, ?_⟩, rfl, ⟨_, rfl, .refl _⟩, rfl, trivial⟩) (by omega) (by omega)
     ·simp -implicitDefEqProofs only [wR', Nat.reduceBEq, Nat.reduceEqDiff, ↓reduceIte, q0lb h8 (by omega)]
     ·rw [← hset, intsO, List.map_set]; exact .refl _
    ·simp -implicitDefEqProofs only [eR', go_sem, intsO, decide_eq_false (show ¬ (j : Int) < (D.length : Int) by omega)]
     refine he2 _ _ ?_
     simp -implicitDefEqProofs only [eR', go_sem]
     refine hn _ (i + 1) (Weak.of _ _ [some 601, some 602] (by simp) (by simp) ?_ ⟨⟨_, rfl, .refl _⟩, rfl, ⟨_, rfl, ?_⟩, rfl, trivial⟩) (by omega) (by omega)
     ·simp -implicitDefEqProofs only [wR', Nat.reduceBEq, Nat.reduceEqDiff, ↓reduceIte, q0lb h9 (by omega)]
     ·rw [show j = S0.length by omega, q19n, hnext]; exact .refl _
  ·simp -implicitDefEqProofs only [eR', go_sem, decide_eq_false (show ¬ (i : Int) < (C.length : Int) by omega)]
   refine he _ _ ?_
   have e : i = C.length := by omega
   subst e
   rw [hf1]
   rw [hf2] at hZs
   have hsl : SS.length = m.length := by rw [← hf1]; exact hfl2 _
   have hsm := q1t9 Zl hsmall
   rw [hZs] at hsm
   have hD : (0 : Int) < 24 * (N : Int) := by omega
   have hDb : 24 * (N : Int) <= 10000000 := by omega
   have hmul : IntKind.i64.wrap (24 * (N : Int)) = 24 * (N : Int) := wrap64 (by omega) (by omega)
   have hnn : ∀ x ∈ SS, 0 <= x := fun x hx => (hsb2 x hx).1
   clear hf1 hfb hfl2 hfs
   simp -implicitDefEqProofs only [eR', go_sem]
   refine SemC.loopR (σ := Nat) (fun i => St.of [(6, .own 601), (11, .t (ints Zl)), (13, .own 602), (18, .t (.i i))] [(601, q0p1 (SS.map (q1en N))), (602, intsO SS)]) (fun i => i <= SS.length) (fun i => SS.length - i) 0 (Weak.of _ _ [some 601, some 602] (by simp) (by simp) ?_ ⟨⟨_, rfl, .refl _⟩, rfl, ⟨_, rfl, .refl _⟩, rfl, trivial⟩) (by omega) fun i hi R hn' hr' he' => ?_
   ·simp -implicitDefEqProofs only [wR', Nat.reduceBEq, Nat.reduceEqDiff, ↓reduceIte]
   ·rcases qH i SS.length with h9 | h9
    ·obtain ⟨x, hx⟩ : ∃ x, SS[i]? = some x := ⟨_, qB h9⟩
     have hx0 := hnn x (qE hx)
     have h5 : (SS.take (i + 1)).sum = (SS.take i).sum + x := by rw [q0uj hx, q0ud]
     have h6' := q1vl hnn i
     have h7 := q1vl hnn (i + 1)
     have hred : Pure Tryz.prog 22 [.i x, .i (24 * (N : Int))] (redT (redR x (24 * (N : Int)))) := q20u x (24 * (N : Int)) hx0 (by omega) (by omega) (by omega)
     have hcode := (q1vf hD hDb hx0 (by omega)).2
     have hEx : (SS.map (q1en N))[i]? = some (redR x (24 * (N : Int))).1 := by rw [qU, hx]; rfl
     simp only [redT, rat, hcode] at hred
     simp -implicitDefEqProofs only [eR', go_sem, intsO, hx, decide_eq_true (show (i : Int) < (SS.length : Int) by omega)]
     refine ⟨by omega, by omega, by omega, ?_⟩
     refine q004.pure hsm [] rfl Tryz.call23 (fun e R' hR => ?_) (by first | trivial | simp [T.noSh, T.noShL, rat]) (fun _ => rfl) ?_
     ·simp -implicitDefEqProofs only [aR', go_sem]
     simp -implicitDefEqProofs only [eR', go_sem, hmul]
     refine q004.pure hred [] rfl Tryz.call22 (fun e R' hR => ?_) (by first | trivial | simp [T.noSh, T.noShL, rat]) (fun _ => rfl) ?_
     ·simp -implicitDefEqProofs only [aR', go_sem]
     simp -implicitDefEqProofs only [eR', go_sem, q0p1, q1n9 hEx]
     have hEl : (SS.map (q1en N)).length = SS.length := qJ _
     refine ⟨by omega, by rw [q0p0]; omega, by rw [q0p0]; omega, ?_⟩
     refine hn' _ (i + 1) (Weak.of _ _ [some 601, some 602] (by simp) (by simp) ?_ ⟨⟨_, rfl, .refl _⟩, rfl, ⟨_, rfl, .refl _⟩, rfl, trivial⟩) (by omega) (by omega)
     simp -implicitDefEqProofs only [wR', Nat.reduceBEq, Nat.reduceEqDiff, ↓reduceIte, q0lb h9 (by omega)]
    ·simp -implicitDefEqProofs only [eR', go_sem, intsO, decide_eq_false (show ¬ (i : Int) < (SS.length : Int) by omega)]
     refine he' _ _ ?_
     simp -implicitDefEqProofs only [eR', go_sem]
end
end Go.Ab

namespace Go.Proofs.YtjeefbiiagflhaaGreat
open Go.ChangeShapes Go.WideShapes Go.ChangeAt Go.RowKit Go.Ab

namespace fnFast
theorem said : ∀ xs, wtL [q168] xs -> Pure Tryz.prog 4 xs (.b true)
 | [x], h => by
   obtain ⟨cs, rfl, hl, hc⟩ := q169 h.1
   exact q20v cs hc (by omega)
 | [], h => h.elim
 | _ :: _ :: _, h => h.2.elim

set_option maxRecDepth 100000 in
theorem lifted (os : Os) (started : os.Started) (H : Type) (enc : TypeId × Value -> H) :
  ReturnsInHanded {} Tryz.checked os 4 .any (Rows.fnFastSpec.pre6 enc Tryz.prog Tryz.f4 Rows.fnFastRow.domain false) (Rows.fnFastSpec.post enc Tryz.prog Tryz.f4 false true false false) := by
 refine returnsInHanded_of_change (C := Tryz.checked) (by kernel_rfl) started (by kernel_rfl) Tryz.func4
  (ChangeSpec.witness6 (enc := enc) (C := Tryz.checked) false ⟨#[], #[.slice none 0 0], []⟩ 8 (by kernel_rfl) (by kernel_rfl) (by kernel_rfl) (by kernel_rfl)) ?_
 intro W base args ds gs before hval hW _ _
 refine q0hc (tys := [q168]) (by kernel_rfl) (by kernel_rfl) rfl (by kernel_rfl) rfl (fun ds h => ?_) said W base args ds gs before hval hW
 match ds, h with
 | [d0], _ => rfl

theorem andT {a b : Bool} (ha : a = true) (hb : b = true) : (a && b) = true := by rw [ha, hb]; rfl
theorem q0g8 : ((Rows.fnFastRow.wf (OpenSpec.ofChange Rows.fnFastSpec))) = true := by kernel_rfl
theorem q0g9 : (laidOutB Tryz.prog) = true := Tryz.laidOutT
theorem q0gk : (mapsRowed Tryz.prog) = true := Tryz.mapsRowedT
theorem q0gv : (Tryz.f4.params.all (Tryz.prog.readableRec ·)) = true := by kernel_rfl
theorem q0gy : (namedTie Tryz.prog Rows.fnFastRow.named Rows.fnFastSpec.vars) = true := by kernel_rfl
theorem q0gz : ((Rows.fnFastRow.stops == [])) = true := by kernel_rfl
theorem q0h0 : ((Tryz.prog.stops == [])) = true := by kernel_rfl
theorem q0h1 : ((Rows.fnFastRow.knobs == [])) = true := by kernel_rfl
theorem q0h2 : ((Tryz.prog.stopKnobs == [])) = true := by kernel_rfl
theorem q0h3 : ((Rows.fnFastRow.inPlace == Tryz.prog.inPlace 4)) = true := by kernel_rfl
theorem q0ga : ((Rows.fnFastRow.unfollowed == Tryz.prog.unfollowed 4)) = true := by kernel_rfl
theorem q0gb : ((Rows.fnFastRow.recurses == Tryz.prog.recurses 4)) = true := by kernel_rfl
theorem q0gc : ((Rows.fnFastRow.named == Tryz.prog.varsNamed 4)) = true := by kernel_rfl
theorem q0gd : ((Rows.fnFastRow.maps == (Tryz.f4.params.toList ++ Rows.fnFastSpec.plain.varTypes Tryz.prog).any (Tryz.prog.mapsRec ·))) = true := by kernel_rfl
theorem q0ge : ((Rows.fnFastRow.ifaces == (Tryz.f4.params.toList ++ Rows.fnFastSpec.plain.varTypes Tryz.prog).any (Tryz.prog.ifacesRec ·))) = true := by kernel_rfl
theorem q0gf : ((Rows.fnFastRow.mapsOut == Tryz.prog.mapsAmong Tryz.f4.resultTypes.toList)) = true := by kernel_rfl
theorem q0gg : ((Rows.fnFastRow.loops == (Tryz.f4.params.toList ++ Rows.fnFastSpec.plain.varTypes Tryz.prog).any (Tryz.prog.loopsFrom ·))) = true := by kernel_rfl
theorem q0gh : ((Rows.fnFastRow.wideKeys == (Tryz.f4.params.toList ++ Rows.fnFastSpec.plain.varTypes Tryz.prog ++ Tryz.f4.resultTypes.toList).any (Tryz.prog.wideKeysFrom ·))) = true := by kernel_rfl
theorem q0gi : (Rows.fnFastSpec.vars.all (Tryz.prog.varReadable ·)) = true := by kernel_rfl
theorem q0gj : (Tryz.f4.resultTypes.all (fun t => Tryz.prog.readableRec t && decide (t < Tryz.prog.types.size))) = true := by kernel_rfl
theorem q0gl : ((Rows.fnFastRow.ifacesOut == Tryz.f4.resultTypes.toList.any (Tryz.prog.ifacesRec ·))) = true := by kernel_rfl
theorem q0gm : ((Rows.fnFastRow.loopsOut == Tryz.f4.resultTypes.toList.any (Tryz.prog.loopsFrom ·))) = true := by kernel_rfl
theorem q0gn : ((Rows.fnFastRow.plainKeys == Tryz.prog.plainKeys)) = true := by kernel_rfl
theorem q0go : (Rows.fnFastRow.shortTexts.isNone) = true := by kernel_rfl
theorem q0gp : (Tryz.prog.stopsHeard) = true := Tryz.heardT
theorem q0gq : (Tryz.prog.mayEnter) = true := Tryz.mayEnterT
theorem q0gr : ((Rows.fnFastRow.lifted == Tryz.prog.liftsFinal)) = true := (by rw [Tryz.liftsF]; rfl)
theorem q0gs : ((Tryz.prog.make == some Rows.fnFastRow.make)) = true := (by rw [Tryz.makeC]; rfl)
theorem q0gt : ((Rows.fnFastRow.kinds == (if Rows.fnFastRow.domain.isEmpty then [] else Tryz.f4.params.toList.map fun t => match Tryz.prog.underlying t with | some (.int k) => some k | _ => none))) = true := by kernel_rfl
theorem q0gu : ((Rows.fnFastRow.pinned == Rows.fnFastRow.pinnedBy)) = true := by kernel_rfl
theorem q0gw : ((Rows.fnFastRow.veiled == (Tryz.f4.params.toList ++ Rows.fnFastSpec.plain.varTypes Tryz.prog ++ Tryz.f4.resultTypes.toList).any (Tryz.prog.veiledRec ·))) = true := by kernel_rfl
theorem q0gx : (Rows.fnFastRow.veiledFits Tryz.prog Tryz.f4.params.toList (Tryz.f4.params.toList ++ Rows.fnFastSpec.plain.varTypes Tryz.prog ++ Tryz.f4.resultTypes.toList)) = true := by kernel_rfl
set_option maxRecDepth 100000 in
theorem joined : joinedFacts Tryz.prog 4 Tryz.f4 Rows.fnFastSpec Rows.fnFastRow = true := by
 unfold joinedFacts
 exact andT (andT (andT (andT (andT (andT (andT (andT (andT (andT (andT (andT (andT (andT (andT (andT (andT (andT (andT (andT (andT (andT (andT (andT (andT (andT (andT (andT (andT (andT (andT (q0g8) q0g9) q0gk) q0gv) q0gy) q0gz) q0h0) q0h1) q0h2) q0h3) q0ga) q0gb) q0gc) q0gd) q0ge) q0gf) q0gg) q0gh) q0gi) q0gj) q0gl) q0gm) q0gn) q0go) q0gp) q0gq) q0gr) q0gs) q0gt) q0gu) q0gw) q0gx
theorem over : Rows.fnFastRow.holds Tryz.pinned (OpenSpec.ofChange Rows.fnFastSpec) :=
 OpenClaim.holds_of_wide 4 Tryz.f4 rfl rfl rfl rfl rfl rfl rfl ⟨rfl, rfl, rfl, rfl, rfl⟩ rfl rfl rfl rfl rfl (by kernel_rfl) Tryz.func4 joined
  (of_decide_eq_true (by kernel_rfl)) (by unfold Func.isWrapper; first | (rw [if_pos (by decide +kernel)]; kernel_rfl) | (rw [if_neg (by decide +kernel)]; exact ⟨rfl, rfl⟩))
  (fun os started H enc _ => lifted os started H enc)
end fnFast

theorem fnFast_holds : Rows.FnFastSaid := fnFast.over
#print axioms fnFast_holds
end Go.Proofs.YtjeefbiiagflhaaGreat
