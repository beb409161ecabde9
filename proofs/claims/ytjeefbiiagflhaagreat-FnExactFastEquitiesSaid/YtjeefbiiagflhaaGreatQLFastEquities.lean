/- The program's FastEquities returns what the reference's returns, for all arguments, and keeps its arguments (and its earlier result): the law FnExactFastEquities returns true for every input. No conditions. -/
import Derived.Test.YtjeefbiiagflhaaGreatRows
import Derived.Test.YtjeefbiiagflhaaGreatQ7
set_option linter.unusedSimpArgs false
set_option linter.unusedVariables false
set_option maxRecDepth 20000
/- Equities, as the law wants them. -/
namespace Go.Ab
open Go.Proofs
def q1eo (v : Int) (holes : List (List Int)) (board dead : List Int) : List (Int × Int) × Int :=
 if q1eb v holes board dead = false then ([], 1)
 else if (q1ak holes board dead).length = 0 then ([], 2)
 else ((q1qc v.toNat holes board dead).map (q1en (q1ak holes board dead).length), 0)
def eqO (x : List (Int × Int) × Int) : T := .tup [q0p1 x.1, .i x.2]
theorem Fun.eqO_nil {P : Program} {f : FuncId} {rin : List T} {args : List A} {x : List (Int × Int) × Int} {y : T} (h : Fun P f rin args fun o r => o = [] /\ r = y) (hy : Le y (eqO x)) : Fun P f rin args fun o r => o = [] /\ r = eqO x :=
 h.le fun o r h1 => ⟨eqO x, by rw [h1.2]; exact hy, h1.1, rfl⟩
theorem q1eq (v : Int) (holes : List (List Int)) (board dead : List Int) : Le (eqT v holes board dead) (eqO (q1eo v holes board dead)) := by
 unfold eqT q1eo
 by_cases h1 : q1eb v holes board dead = false
 ·rw [if_pos h1, if_pos h1]; exact .tup2 (.nilArr 2) (.refl _)
 ·rw [if_neg h1, if_neg h1]
  by_cases h2 : (q1ak holes board dead).length = 0
  ·rw [if_pos h2, if_pos h2]; exact .tup2 (.nilArr 2) (.refl _)
  ·rw [if_neg h2, if_neg h2]; exact .refl _
theorem q1em (x : List (Int × Int) × Int) : (eqO x).noSh := ⟨q1nh _, trivial, trivial⟩
theorem q1ep (v : Int) (holes : List (List Int)) (board dead : List Int) : (q1eo v holes board dead).1.length <= 4 := by
 unfold q1eo
 split
 ·simp
 ·split
  ·simp
  ·rename_i h1 h2
   have h1 : q1eb v holes board dead = true := by simpa using h1
   rw [q1eb, Bool.and_eq_true, decide_eq_true_eq, decide_eq_true_eq] at h1
   have := h1.2.2.1
   simp only [List.length_map]
   rw [q1qc, q1q7]; exact this
theorem q1oy (v : Int) (holes : List (List Int)) (board dead : List Int) (hh : holes.flatten.length <= 2000000) (hhn : holes.length <= 2000000) (hb : board.length <= 2000000) (hd : dead.length <= 2000000) :
  Fun Tryz.prog 26 [] [.t (.i v), .t (rows holes), .t (ints board), .t (ints dead)] fun o r => o = [] /\ r = eqO (q1eo v holes board dead) :=
 (q1oz v holes board dead hh hhn hb hd).eqO_nil (q1eq _ _ _ _)
theorem q1wo (l : List Int) : choL l 0 = [[]] := by cases l <;> rfl
theorem q1wn : ∀ l : List Int, choL l 1 = l.map fun x => [x]
 | [] => rfl
 | x :: l => by rw [choL, q1wo, q1wn l]; rfl
def q1yy (holes : List (List Int)) (b : List Int) : List (List Int) := holes ++ [b]
theorem q1yv (holes : List (List Int)) (b : List Int) : q1yt (q1yy holes b) = q1nk holes b [] := by
 have h1 : q1nk holes b [] = q1mf (q1yy holes b).flatten := q1mh fun x => by
  simp only [q1yy, List.append_nil, List.flatten_append, List.flatten_cons, List.flatten_nil, List.mem_append]
  exact Or.comm
 rw [h1]; rfl
theorem q1w0 {holes : List (List Int)} {b : List Int} (h4 : b.length = 4) : q1ak holes b [] = (q1yt (q1yy holes b)).map fun c => b ++ [c] := by
 rw [q1ak, h4, q1wn, List.map_map, q1yv]; rfl
theorem q1x9 {k : Nat} {holes : List (List Int)} {b : List Int} (h : q1ec k holes b []) : (∀ s ∈ q1yy holes b, s ≠ [] /\ s.length <= 52 /\ q1cv s) /\ (q1yy holes b).length <= 6 /\ (q1yy holes b).flatten ≠ [] := by
 obtain ⟨h1, h2, h3, h4, h5, hcd⟩ := h
 rw [List.append_nil] at hcd
 have hne : ∀ s ∈ q1yy holes b, s ≠ [] /\ s.length <= 52 /\ q1cv s := fun s hs => by
  rcases List.mem_append.1 hs with hs | hs
  ·have hl := h5 s hs
   have : hoOf k = 2 ∨ hoOf k = 4 := by unfold hoOf; split <;> simp
   refine ⟨fun e => by subst e; simp at hl; omega, by omega, ?_, fun x hx => hcd.2 x (List.mem_append.2 (.inr (List.mem_flatten.2 ⟨s, hs, hx⟩)))⟩
   exact (List.nodup_append.1 hcd.1).2.1.sublist (List.sublist_flatten_of_mem hs)
  ·have : s = b := by simpa using hs
   subst this
   exact ⟨fun e => by subst e; simp at h3, by omega, (List.nodup_append.1 hcd.1).1, fun x hx => hcd.2 x (by simp [hx])⟩
 refine ⟨hne, by simp [q1yy]; omega, fun e => ?_⟩
 have hb := (hne b (by simp [q1yy])).1
 have : b = [] := by
  rw [q1yy, List.flatten_append] at e
  simpa using (List.append_eq_nil_iff.1 e).2
 exact hb this
theorem q1x8 {k : Nat} {holes : List (List Int)} {b : List Int} (h : q1ec k holes b []) (h4 : b.length = 4) : ∀ d, 0 <= d /\ d < 52 -> (∀ s ∈ q1yy holes b, d ∉ s) -> ∀ x ∈ holes, q1cv (x ++ (b ++ [d])) /\ x.length = hoOf k := by
 intro d hd hdn
 have hm : b ++ [d] ∈ q1ak holes b [] := by
  rw [q1w0 h4]
  exact List.mem_map.2 ⟨d, q1yu.2 ⟨hd, hdn⟩, rfl⟩
 exact (q1aj h hm).2
theorem q1vo (A B : List Int) {p : Nat} (hp : p < A.length) : (addL A B).getD p 0 = A.getD p 0 + B.getD p 0 := by
 rw [List.getD_eq_getElem?_getD, addL, q1qj hp]; rfl
theorem q1yo (L : List Int) (z : Int) (p : Nat) : (L.map fun y => y * z).getD p 0 = L.getD p 0 * z := by
 rw [List.getD_eq_getElem?_getD, List.getElem?_map, List.getD_eq_getElem?_getD]
 cases L[p]? <;> simp
def sumF (k : Nat) (holes : List (List Int)) (b : List Int) (z : Int -> Int) (C : List Int) : Nat -> List Int
 | 0 => List.replicate holes.length 0
 | i + 1 => addL (sumF k holes b z C i) ((q1o6 k holes (b ++ [C.getD i 0])).map fun y => y * z (C.getD i 0))
theorem q1zy (k : Nat) (holes : List (List Int)) (b : List Int) (z : Int -> Int) (C : List Int) : ∀ i, (sumF k holes b z C i).length = holes.length
 | 0 => by simp [sumF]
 | i + 1 => by rw [sumF, q19q, q1zy k holes b z C i]
theorem q1zw (k : Nat) (holes : List (List Int)) (b : List Int) (z : Int -> Int) (hz : ∀ c, 0 <= z c /\ z c <= 24) (C : List Int) : ∀ i, ∀ x ∈ sumF k holes b z C i, 0 <= x /\ x <= 1152 * (i : Int)
 | 0 => fun x hx => by rw [List.eq_of_mem_replicate hx]; omega
 | i + 1 => fun x hx => by
   have := q19r (q1zw k holes b z hz C i) (b := 1152) (B := (q1o6 k holes (b ++ [C.getD i 0])).map fun y => y * z (C.getD i 0)) (fun y hy => by
    obtain ⟨w, hw, rfl⟩ := List.mem_map.1 hy
    have h1 : 0 <= w /\ w <= 48 := by rw [q1o6] at hw; exact q19z _ _ _ w hw
    obtain ⟨z0, z1⟩ := hz (C.getD i 0)
    refine ⟨Int.mul_nonneg h1.1 z0, ?_⟩
    have : w * z (C.getD i 0) <= 48 * 24 := Int.mul_le_mul h1.2 z1 z0 (by decide)
    omega) (by omega) (by omega) x hx
   omega
theorem q1zv (k : Nat) (holes : List (List Int)) (b : List Int) (z : Int -> Int) (C : List Int) (p : Nat) (hp : p < holes.length) : ∀ i, i <= C.length -> (sumF k holes b z C i).getD p 0 = ((C.take i).map fun c => z c * (q1o6 k holes (b ++ [c])).getD p 0).sum
 | 0, _ => by
   rw [sumF, List.getD_eq_getElem?_getD, List.getElem?_replicate, if_pos hp]; rfl
 | i + 1, hi => by
   obtain ⟨c, hc⟩ : ∃ c, C[i]? = some c := ⟨_, List.getElem?_eq_getElem (by omega)⟩
   have hg : C.getD i 0 = c := by rw [List.getD_eq_getElem?_getD, hc]; rfl
   rw [sumF, q1vo _ _ (by rw [q1zy]; exact hp), q1zv k holes b z C p hp i (by omega), hg, q1yo, q0uj hc, List.map_append, List.sum_append_int, List.map_cons, List.map_nil, List.sum_cons, List.sum_nil, Int.mul_comm (z c)]
   omega
theorem q1zu (k : Nat) (holes B : List (List Int)) (p : Nat) (hp : p < holes.length) : ∀ i, i <= B.length -> (q1q5 k holes B i).getD p 0 = ((B.take i).map fun x => (q1o6 k holes x).getD p 0).sum
 | 0, _ => by
   rw [q1q5, List.getD_eq_getElem?_getD, List.getElem?_replicate, if_pos hp]; rfl
 | i + 1, hi => by
   obtain ⟨c, hc⟩ : ∃ c, B[i]? = some c := ⟨_, List.getElem?_eq_getElem (by omega)⟩
   have hg : B.getD i [] = c := by rw [List.getD_eq_getElem?_getD, hc]; rfl
   rw [q1q5, q1vo _ _ (by rw [q1q7]; exact hp), q1zu k holes B p hp i (by omega), hg, q0uj hc, List.map_append, List.sum_append_int, List.map_cons, List.map_nil, List.sum_cons, List.sum_nil]
   omega
def szF (S : List (List Int)) (c : Int) : Int := ((alL (fixL S) c).length : Int)
theorem q202 (S : List (List Int)) (c : Int) : 0 <= szF S c /\ szF S c <= 24 := by
 have h1 : (alL (fixL S) c).length <= (q1zc ((fixL S).map fun p => tk p c)).length := q1wy (q1ze _)
 rw [q1zf, List.length_map] at h1
 have h2 : (fixL S).length <= q1zk.length := List.length_filter_le _ _
 rw [q1zt.2.2.2] at h2
 unfold szF; omega
theorem q1zx {k : Nat} (hk : k <= 2) {holes : List (List Int)} {b : List Int} (h : q1ec k holes b []) (h4 : b.length = 4) : sumF k holes b (szF (q1yy holes b)) (clsL (q1yy holes b)) (clsL (q1yy holes b)).length = q1qc k holes b [] := by
 have hS : q1wk (q1yy holes b) := fun s hs => ((q1x9 h).1 s hs).2.2.2
 have e : ∀ p, p < holes.length -> (sumF k holes b (szF (q1yy holes b)) (clsL (q1yy holes b)) (clsL (q1yy holes b)).length).getD p 0 = (q1qc k holes b []).getD p 0 := fun p hp => by
  rw [q1zv _ _ _ _ _ p hp _ (Nat.le_refl _), List.take_length, q1qc, q1zu _ _ _ p hp _ (Nat.le_refl _), List.take_length, q1w0 h4, List.map_map]
  exact q1wu hS (fun c => (q1o6 k holes (b ++ [c])).getD p 0) fun c q hc hcn hq => by
   show (q1o6 k holes (b ++ [tk q c])).getD p 0 = (q1o6 k holes (b ++ [c])).getD p 0
   rw [q1yq hk h4 hq (q1x8 h h4) hc hcn]
 refine List.ext_getElem? fun p => ?_
 have l1 := q1zy k holes b (szF (q1yy holes b)) (clsL (q1yy holes b)) (clsL (q1yy holes b)).length
 have l2 : (q1qc k holes b []).length = holes.length := by rw [q1qc, q1q7]
 by_cases hp : p < holes.length
 ·have := e p hp
  rw [List.getD_eq_getElem?_getD, List.getD_eq_getElem?_getD, List.getElem?_eq_getElem (by omega), List.getElem?_eq_getElem (by omega)] at this
  rw [List.getElem?_eq_getElem (by omega), List.getElem?_eq_getElem (by omega)]
  exact congrArg some this
 ·rw [List.getElem?_eq_none (by omega), List.getElem?_eq_none (by omega)]
def cntF (z : Int -> Int) (C : List Int) (i : Nat) : Int := ((C.take i).map z).sum
theorem q1x4 {z : Int -> Int} {C : List Int} {i : Nat} {c : Int} (h : C[i]? = some c) : cntF z C (i + 1) = cntF z C i + z c := by
 rw [cntF, q0uj h, List.map_append, List.sum_append_int, cntF]; simp
theorem q1x2 {z : Int -> Int} (hz : ∀ c, 0 <= z c /\ z c <= 24) (C : List Int) : ∀ i, i <= C.length -> 0 <= cntF z C i /\ cntF z C i <= 24 * (i : Int)
 | 0, _ => by simp [cntF]
 | i + 1, hi => by
   obtain ⟨c, hc⟩ : ∃ c, C[i]? = some c := ⟨_, List.getElem?_eq_getElem (by omega)⟩
   have := q1x2 hz C i (by omega)
   have h2 := hz c
   rw [q1x4 hc]; omega
theorem q1x3 {holes : List (List Int)} {b : List Int} {k : Nat} (h : q1ec k holes b []) (h4 : b.length = 4) : cntF (szF (q1yy holes b)) (clsL (q1yy holes b)) (clsL (q1yy holes b)).length = ((q1ak holes b []).length : Int) := by
 have hS : q1wk (q1yy holes b) := fun s hs => ((q1x9 h).1 s hs).2.2.2
 have := q1wu hS (fun _ => 1) fun _ _ _ _ _ => rfl
 rw [cntF, List.take_length, q1w0 h4, List.length_map]
 simp only [Int.mul_one] at this
 show ((clsL (q1yy holes b)).map fun c => ((alL (fixL (q1yy holes b)) c).length : Int)).sum = _
 rw [this]
 have := q201 (l := (q1yt (q1yy holes b)).map fun _ => (1 : Int)) (x := 1) fun y hy => by
  obtain ⟨_, _, rfl⟩ := List.mem_map.1 hy; rfl
 rw [this, List.length_map]; omega
theorem q1xn : ∀ {L : List (List Int)}, (∀ s ∈ L, s.length <= 4) -> L.flatten.length <= 4 * L.length
 | [], _ => by simp
 | s :: L, h => by
   have h1 := h s (by simp)
   have h2 := q1xn (L := L) fun q hq => h q (by simp [hq])
   rw [List.flatten_cons, List.length_append, List.length_cons]; omega
theorem q1w1 {k : Nat} {holes : List (List Int)} {b : List Int} (h : q1ec k holes b []) (h4 : b.length = 4) : 0 < (q1ak holes b []).length := by
 rw [q1w0 h4, List.length_map]
 apply Classical.byContradiction
 intro hn
 have hnil : q1yt (q1yy holes b) = [] := List.length_eq_zero_iff.1 (by omega)
 have hall : ∀ x ∈ (List.range 52).map fun (j : Nat) => (j : Int), x ∈ (q1yy holes b).flatten := fun x hx => by
  obtain ⟨j, hj, rfl⟩ := List.mem_map.1 hx
  have hj : j < 52 := by simpa using hj
  apply Classical.byContradiction
  intro hni
  have : (j : Int) ∈ q1yt (q1yy holes b) := q1yu.2 ⟨by omega, fun s hs hm => hni (List.mem_flatten.2 ⟨s, hs, hm⟩)⟩
  rw [hnil] at this; simp at this
 have h1 := q1lg (q1ys 52) hall
 obtain ⟨_, h2, _, _, h5, _⟩ := h
 have h6 := q1xn (L := holes) fun s hs => by
  rw [h5 s hs]; unfold hoOf; split <;> omega
 rw [List.length_map, List.length_range, q1yy, List.flatten_append, List.length_append] at h1
 simp only [List.flatten_cons, List.flatten_nil, List.append_nil] at h1
 omega
def q1xc (v : Int) (holes : List (List Int)) (b : List Int) : List (Int × Int) × Int :=
 if q1eb v holes b [] = false then ([], 1) else if b.length = 4 then q1eo v holes b [] else ([], 2)
section
attribute [-go_sem] q0i5 q0id fldC lenC idxC q0ip
theorem Fun.nilA {P : Program} {f : FuncId} {rin : List T} {args args' : List A} {Q : List T -> T -> Prop} (h : Fun P f rin args' Q) (hl : args'.length = args.length)
  (ha : ∀ i (h : i < args'.length) (h' : i < args.length), args'[i] = args[i] ∨ ((∃ s, args'[i] = .t (.sh s [])) /\ args[i] = .t (.v (.slice none 0 0)))) : Fun P f rin args Q := fun X w vals hs fp hm hv hi => h X w vals hs fp hm (by omega) fun i h1 => by
 rcases ha i h1 (by omega) with e | ⟨⟨s, e1⟩, e2⟩
 ·rw [e]; exact hi i (by omega)
 ·have := hi i (by omega)
  rw [e2] at this
  rw [e1]
  cases this with
  | t hr => exact .t (q0j9 (.inr ⟨⟨s, rfl⟩, rfl⟩) hr)
theorem nil4 {a b c : T} : ∀ i (h : i < [A.t a, A.t b, A.t c, A.t (ints [])].length) (h' : i < [A.t a, A.t b, A.t c, A.t (.v (.slice none 0 0))].length), [A.t a, A.t b, A.t c, A.t (ints [])][i] = [A.t a, A.t b, A.t c, A.t (.v (.slice none 0 0))][i] ∨ ((∃ s, [A.t a, A.t b, A.t c, A.t (ints [])][i] = .t (.sh s [])) /\ [A.t a, A.t b, A.t c, A.t (.v (.slice none 0 0))][i] = .t (.v (.slice none 0 0)))
 | 0, _, _ => .inl rfl
 | 1, _, _ => .inl rfl
 | 2, _, _ => .inl rfl
 | 3, _, _ => .inr ⟨⟨1, rfl⟩, rfl⟩
 | n + 4, h, _ => absurd h (by simp)
theorem q1t4 (v : Int) (holes : List (List Int)) (board : List Int) (hh : holes.flatten.length <= 2000000) (hhn : holes.length <= 2000000) (hb : board.length <= 2000000) : Pure Tryz.prog 27 [.i v, rows holes, ints board, .v (.slice none 0 0)] (.b (q1eb v holes board [])) :=
 Fun.nilA (q1iz v holes board [] hh hhn hb (by simp)) rfl nil4
theorem q1tn (v : Int) (holes : List (List Int)) (board : List Int) (hh : holes.flatten.length <= 2000000) (hhn : holes.length <= 2000000) (hb : board.length <= 2000000) : Pure Tryz.prog 25 [.i v, rows holes, ints board, .v (.slice none 0 0)] (.b (q1eb v holes board [])) :=
 Fun.nilA (q1p0 v holes board [] hh hhn hb (by simp)) rfl nil4
theorem q1sm {v : Int} {holes : List (List Int)} {board dead : List Int} (h : q1eb v holes board dead = true) : ∃ k : Nat, v = k /\ k <= 2 /\ q1ec k holes board dead := by
 rw [q1eb, Bool.and_eq_true, decide_eq_true_eq, decide_eq_true_eq] at h
 exact ⟨v.toNat, by omega, by omega, h.2⟩
/- Counts of boards. -/
/- The leader. -/
end
section
attribute [-go_sem] q0i5 q0id fldC lenC idxC q0ip
theorem q1z3 (m : List (List Int)) (hl : m.length <= 1000000) : Fun Tryz.prog 28 [] [.t (rows m)] fun o r => o = [] /\ r = .arr 1 (m.map ints) := by
 refine Fun.le (Q := fun o r => o = [] /\ (r = .arr 1 (m.map ints) ∨ (m = [] /\ r = .v (.slice none 0 0)))) ?_ ?_
 ·refine q1xy (by simp) ?_
  simp -implicitDefEqProofs only [q1wc, rows, go_sem]
  intro b hb
  exact ⟨fun h => .inr (by simpa using hb h), fun _ => ⟨List.all_eq_true.2 fun x hx => by obtain ⟨r, _, rfl⟩ := List.mem_map.1 hx; rfl, by omega⟩⟩
 ·rintro o r ⟨rfl, rfl | ⟨rfl, rfl⟩⟩
  ·exact ⟨_, .refl _, rfl, rfl⟩
  ·exact ⟨_, .nilArr 1, rfl, rfl⟩
theorem q1zh (v : Int) (holes : List (List Int)) (b : List Int) (hh : holes.flatten.length <= 2000000) (hhn : holes.length <= 2000000) (hb : b.length <= 2000000) :
  Fun Tryz.prog 6 [] [.t (.i v), .t (rows holes), .t (ints b)] fun o r => o = [] /\ r = eqO (q1xc v holes b) := by
 have hdl := q1tn v holes b hh hhn hb
 have hEq : Fun Tryz.prog 26 [] [.t (.i v), .t (rows holes), .t (ints b), .t (.v (.slice none 0 0))] fun o r => o = [] /\ r = eqO (q1eo v holes b []) := Fun.nilA (q1oy v holes b [] hh hhn hb (by simp)) rfl nil4
 refine Fun.le (Q := fun o r => o = [] /\ (r = eqO (q1xc v holes b) ∨ ((q1xc v holes b).1 = [] /\ r = .tup [.v (.slice none 0 0), .i (q1xc v holes b).2]))) ?_ ?_
 ·refine q1y5 (by simp) ?_
  simp -implicitDefEqProofs only [eR', go_sem, q1wj]
  unfold q1xc
  cases hdb : q1eb v holes b [] with
  | false =>
    rw [hdb] at hdl
    refine q006.p hdl [] rfl Tryz.call25 ?_ ?_
    ·simp -implicitDefEqProofs only [aR', go_sem]
    simp -implicitDefEqProofs only [eR', go_sem, show (!false) = true from rfl]
    simp
  | true =>
    rw [hdb] at hdl
    refine q006.p hdl [] rfl Tryz.call25 ?_ ?_
    ·simp -implicitDefEqProofs only [aR', go_sem]
    simp -implicitDefEqProofs only [eR', go_sem, show (!true) = false from rfl]
    rcases Decidable.em (b.length = 4) with h4 | h4
    ·refine ⟨fun h => by simp [h4] at h, fun _ => ?_⟩
     refine q006.res hEq [] rfl Tryz.call26 ?_ (.inl rfl) ?_
     ·simp -implicitDefEqProofs only [aR', go_sem]
     simp -implicitDefEqProofs only [cR', go_sem, eqO]
     rw [if_pos h4]; exact .inl rfl
    ·refine ⟨fun _ => ?_, fun h => by simp at h; omega⟩
     simp [h4]
 ·rintro o r ⟨rfl, rfl | ⟨h3, rfl⟩⟩
  ·exact ⟨_, .refl _, rfl, rfl⟩
  ·refine ⟨eqO (q1xc v holes b), ?_, rfl, rfl⟩
   rw [eqO, h3]; exact .tup2 (.nilArr 2) (.refl _)
theorem q1yz (holes : List (List Int)) (b : List Int) : (T.arr 1 (holes.map ints ++ [ints b])).toSh = rows (q1yy holes b) := by
 have h : holes.map ints ++ [ints b] = (q1yy holes b).map ints := by rw [q1yy, List.map_append]; rfl
 rw [h, T.toSh, T.toShL_eq_map, List.map_map, rows]
 congr 1
theorem q1y9 (v : Int) (holes : List (List Int)) (b : List Int) (hh : holes.flatten.length <= 2000000) (hhn : holes.length <= 2000000) (hb : b.length <= 2000000) :
  Fun Tryz.prog 9 [] [.t (.i v), .t (rows holes), .t (ints b)] fun o r => o = [] /\ r = eqO (q1xc v holes b) := by
 have hdl := q1t4 v holes b hh hhn hb
 refine Fun.le (Q := fun o r => o = [] /\ (r = eqO (q1xc v holes b) ∨ ((q1xc v holes b).1 = [] /\ r = .tup [.v (.slice none 0 0), .i (q1xc v holes b).2]))) ?_ ?_
 ·refine q1xo (by simp) ?_
  simp -implicitDefEqProofs only [eR', go_sem, q1w2]
  unfold q1xc
  cases hdb : q1eb v holes b [] with
  | false =>
    rw [hdb] at hdl
    refine q006.p hdl [] rfl Tryz.call27 ?_ ?_
    ·simp -implicitDefEqProofs only [aR', go_sem]
    simp -implicitDefEqProofs only [eR', go_sem, show (!false) = true from rfl]
    simp
  | true =>
    rw [hdb] at hdl
    refine q006.p hdl [] rfl Tryz.call27 ?_ ?_
    ·simp -implicitDefEqProofs only [aR', go_sem]
    simp -implicitDefEqProofs only [eR', go_sem, show (!true) = false from rfl]
    rcases Decidable.em (b.length = 4) with h4 | h4
    ·refine ⟨fun h => by simp [h4] at h, fun _ => ?_⟩
     obtain ⟨k, rfl, hk, hp⟩ := q1sm hdb
     obtain ⟨hne, h6, hfl⟩ := q1x9 hp
     have hnc := q1ya (q1yy holes b) h6 hfl hne
     have hf1 := q1zx hk hp h4
     have hf2 := q1x3 hp h4
     have hpos := q1w1 hp h4
     have hres : q1xc k holes b = ((q1qc k holes b []).map (q1en (q1ak holes b []).length), 0) := by
      rw [q1xc, if_neg (by simp [hdb]), if_pos h4, q1eo, if_neg (by simp [hdb]), if_neg (by omega), Int.toNat_natCast]
     have hn4 := hp.2.1
     have hn2 := hp.1
     have hhok := q1x8 hp h4
     rw [if_pos h4]
     have hres2 : q1eo k holes b [] = ((q1qc k holes b []).map (q1en (q1ak holes b []).length), 0) := by
      rw [q1eo, if_neg (by simp [hdb]), if_neg (by omega), Int.toNat_natCast]
     rw [hres2]
     have hcl : ∀ c ∈ clsL (q1yy holes b), (0 <= c /\ c < 52) /\ ∀ s ∈ q1yy holes b, c ∉ s := fun c hc => ⟨(q1ws.1 hc).1, (q1ws.1 hc).2.1⟩
     have hc52 : (clsL (q1yy holes b)).length <= 52 := q1wq _ 52
     have hz := q202 (q1yy holes b)
     have hsz : szTo (q1yy holes b) 52 = (clsL (q1yy holes b)).map (szF (q1yy holes b)) := rfl
     rw [hsz] at hnc
     have hfb := q1zw k holes b _ hz (clsL (q1yy holes b))
     have hfl2 := q1zy k holes b (szF (q1yy holes b)) (clsL (q1yy holes b))
     have hcb := q1x2 hz (clsL (q1yy holes b))
     have hcs := fun i c => @q1x4 (szF (q1yy holes b)) (clsL (q1yy holes b)) i c
     have hfs : ∀ i, sumF k holes b (szF (q1yy holes b)) (clsL (q1yy holes b)) (i + 1) = addL (sumF k holes b (szF (q1yy holes b)) (clsL (q1yy holes b)) i) ((q1o6 k holes (b ++ [(clsL (q1yy holes b)).getD i 0])).map fun y => y * szF (q1yy holes b) ((clsL (q1yy holes b)).getD i 0)) := fun i => rfl
     generalize hzf : szF (q1yy holes b) = z at *
     generalize clsL (q1yy holes b) = C at *
     obtain ⟨Zl, hZl⟩ : ∃ Zl, Zl = C.map z := ⟨_, rfl⟩
     have hZlen : Zl.length = C.length := by rw [hZl, List.length_map]
     have hZat : ∀ i c, C[i]? = some c -> Zl[i]? = some (z c) := fun i c h => by rw [hZl, List.getElem?_map, h]; rfl
     rw [← hZl] at hnc
     clear hZl hsz
     generalize q1qc k holes b [] = SS at *
     generalize (q1ak holes b []).length = N at *
     refine q006.res (q1z3 holes (by omega)) [] rfl Tryz.call28 ?_ (.inl rfl) ?_
     ·simp -implicitDefEqProofs only [aR', go_sem]
     simp -implicitDefEqProofs only [cR', go_sem]
     refine ⟨by omega, ?_⟩
     have hsetsh : (T.arr 1 (List.map ints holes ++ [T.sh 1 (List.map T.i b)])).toSh = rows (q1yy holes b) := q1yz holes b
     refine q006.res hnc [33] rfl Tryz.call20 ?_ (.inr ⟨q0fh _, q0fh _, trivial, trivial⟩) ?_
     ·simp -implicitDefEqProofs only [aR', go_sem, hsetsh]
     simp -implicitDefEqProofs only [cR', go_sem, intsO]
     refine ⟨by omega, by omega, ?_⟩
     refine SemC.loopR (σ := Nat) (fun i => St.of [(0, .t (.i k)), (1, .t (rows holes)), (2, .t (ints b)), (10, .t (ints Zl)), (12, .own 91), (13, .t (.i (cntF z C i))), (43, .t (ints C)), (44, .t (.i C.length)), (45, .t (.i i))] [(91, intsO (sumF k holes b z C i))]) (fun i => i <= C.length) (fun i => C.length - i) 0 (Weak.trans (Weak.share 36 rfl) (Weak.trans (Weak.share 37001 rfl) (Weak.of _ _ [some 42] (by simp) (by simp) ?_ ⟨⟨_, rfl, ?_⟩, rfl, trivial⟩))) (by omega) fun i hi R hn hr he => ?_
     ·have e1 : ∀ l : List Int, (T.arr 1 (List.map T.i l)).toSh = T.sh 1 (List.map T.i l) := q0fi
      simp -implicitDefEqProofs only [wR', Nat.reduceBEq, Nat.reduceEqDiff, ↓reduceIte, q0rg, e1, show cntF z C 0 = 0 from rfl]
     ·rw [sumF, q0jc, intsO, List.map_replicate]; exact .refl _
     ·rcases Nat.lt_or_ge i C.length with h9 | h9
      ·obtain ⟨c, hx⟩ : ∃ c, C[i]? = some c := ⟨_, List.getElem?_eq_getElem h9⟩
       have hg : C.getD i 0 = c := by rw [List.getD_eq_getElem?_getD, hx]; rfl
       obtain ⟨hc0, hcn⟩ := hcl c (List.mem_of_getElem? hx)
       have hZx := hZat i c hx
       have hcb1 := hcb i hi
       have hz1 := hz c
       have hcnt : IntKind.i64.wrap (cntF z C i + z c) = cntF z C (i + 1) := by rw [hcs i c hx, wrap64 (by omega) (by omega)]
       have hS := hfs i
       rw [hg] at hS
       have hsb := hfb i
       have hsl := hfl2 i
       have hpl := q1ow k holes (b ++ [c])
       have hpb : ∀ x ∈ q1o6 k holes (b ++ [c]), 0 <= x /\ x <= 48 := by rw [q1o6]; exact q19z _ _ _
       have hparts := q0eu k hk holes (b ++ [c]) hn4 (by omega) (hhok c hc0 hcn) (by rw [List.length_append, h4]; rfl)
       have hnext : sumF k holes b z C (i + 1) = addL (sumF k holes b z C i) ((q1o6 k holes (b ++ [c])).map fun y => y * z c) := hS
       have hparts2 : Fun Tryz.prog 29 [] [.t (.i k), .t (rows holes), .t (.sh 1 (List.map T.i b ++ [T.i c]))] fun o r => o = [] /\ r = intsO (q1o6 k holes (b ++ [c])) := by
        have e : ints (b ++ [c]) = .sh 1 (List.map T.i b ++ [T.i c]) := by rw [ints, List.map_append]; rfl
        rw [← e]; exact hparts
       generalize sumF k holes b z C i = S0 at *
       generalize q1o6 k holes (b ++ [c]) = D at *
       have hshd : (T.arr 1 (List.map T.i b ++ [T.i c])).toSh = .sh 1 (List.map T.i b ++ [T.i c]) := by
        have := q0fi (b ++ [c])
        rwa [intsO, ints, List.map_append] at this
       simp -implicitDefEqProofs only [eR', go_sem, hx, hZx, hZlen, hcnt, decide_eq_true (show (i : Int) < (C.length : Int) by omega)]
       refine ⟨by omega, by omega, by omega, by omega, by omega, by omega, ?_⟩
       refine q006.res (q0rq b (by omega)) [] rfl Tryz.call30 ?_ (.inl rfl) ?_
       ·simp -implicitDefEqProofs only [aR', go_sem]
       simp -implicitDefEqProofs only [cR', go_sem, intsO]
       refine ⟨by omega, ?_⟩
       refine q006.res hparts2 [62] rfl Tryz.call29 ?_ (.inr (q0fh _)) ?_
       ·simp -implicitDefEqProofs only [aR', go_sem, hshd]
       simp -implicitDefEqProofs only [cR', go_sem, intsO]
       refine SemC.loopR (σ := Nat) (fun j => St.of [(0, .t (.i k)), (1, .t (rows holes)), (2, .t (ints b)), (10, .t (ints Zl)), (12, .own 91), (13, .t (.i (cntF z C (i + 1)))), (14, .t (.i i)), (43, .t (ints C)), (44, .t (.i C.length)), (45, .t (.i i)), (63, .own 92), (64, .t (.i D.length)), (65, .t (.i j))] [(91, intsO (adTo S0 (D.map fun y => y * z c) j)), (92, intsO D)]) (fun j => j <= D.length) (fun j => D.length - j) 0 (Weak.of _ _ [some 91, some 63] (by simp) (by simp) ?_ ⟨⟨_, rfl, by rw [q19p]; exact .refl _⟩, rfl, ⟨_, rfl, .refl _⟩, rfl, trivial⟩) (by omega) fun j hj R2 hn2 hr2 he2 => ?_
       ·simp -implicitDefEqProofs only [wR', Nat.reduceBEq, Nat.reduceEqDiff, ↓reduceIte]
       ·have hal : (adTo S0 (D.map fun y => y * z c) j).length = holes.length := by rw [adTo, q1qk, hsl]
        rcases Nat.lt_or_ge j D.length with h8 | h8
        ·obtain ⟨y, hy⟩ : ∃ y, D[j]? = some y := ⟨_, List.getElem?_eq_getElem h8⟩
         have hyb := hpb y (List.mem_of_getElem? hy)
         have hset := q19o S0 (D.map fun y => y * z c) j
         rw [q1yo, show D.getD j 0 = y by rw [List.getD_eq_getElem?_getD, hy]; rfl] at hset
         have hP : (adTo S0 (D.map fun y => y * z c) j)[j]? = some (S0.getD j 0) := by rw [adTo, q1qj (by omega), if_neg (by omega)]
         have hSb : 0 <= S0.getD j 0 /\ S0.getD j 0 <= 1152 * (i : Int) := by
          obtain ⟨w, hw⟩ : ∃ w, S0[j]? = some w := ⟨_, List.getElem?_eq_getElem (by omega)⟩
          rw [List.getD_eq_getElem?_getD, hw]; exact hsb w (List.mem_of_getElem? hw)
         have hm0 : 0 <= y * z c := Int.mul_nonneg hyb.1 hz1.1
         have hm1 : y * z c <= 48 * 24 := Int.mul_le_mul hyb.2 hz1.2 hz1.1 (by decide)
         have hw1 : IntKind.i64.wrap (y * z c) = y * z c := wrap64 (by omega) (by omega)
         have hw2 : IntKind.i64.wrap (S0.getD j 0 + y * z c) = S0.getD j 0 + y * z c := wrap64 (by omega) (by omega)
         simp -implicitDefEqProofs only [eR', go_sem, intsO, hy, hP, hal, hZx, hZlen, hw1, hw2, decide_eq_true (show (j : Int) < (D.length : Int) by omega)]
         refine ⟨by omega, by omega, by omega, by omega, by omega, by omega, by omega, by omega, by omega, by omega, by omega, by omega, ?_⟩
         refine hn2 _ (j + 1) (Weak.of _ _ [some 91, some 92] (by simp) (by simp) ?_ ⟨⟨_, rfl, ?_⟩, rfl, ⟨_, rfl, .refl _⟩, rfl, trivial⟩) (by omega) (by omega)
         ·simp -implicitDefEqProofs only [wR', Nat.reduceBEq, Nat.reduceEqDiff, ↓reduceIte, q0lb h8 (by omega)]
         ·rw [← hset, intsO, List.map_set]; exact .refl _
        ·simp -implicitDefEqProofs only [eR', go_sem, decide_eq_false (show ¬ (j : Int) < (D.length : Int) by omega)]
         refine he2 _ _ ?_
         simp -implicitDefEqProofs only [eR', go_sem]
         refine hn _ (i + 1) (Weak.of _ _ [some 91] (by simp) (by simp) ?_ ⟨⟨_, rfl, ?_⟩, rfl, trivial⟩) (by omega) (by omega)
         ·simp -implicitDefEqProofs only [wR', Nat.reduceBEq, Nat.reduceEqDiff, ↓reduceIte, q0lb h9 (by omega)]
         ·rw [show j = S0.length by omega, q19n, hnext]; exact .refl _
      ·simp -implicitDefEqProofs only [eR', go_sem, decide_eq_false (show ¬ (i : Int) < (C.length : Int) by omega)]
       refine he _ _ ?_
       have e : i = C.length := by omega
       subst e
       rw [hf1, hf2]
       have hsb : ∀ x ∈ SS, 0 <= x /\ x <= 1152 * (C.length : Int) := by rw [← hf1]; exact hfb _
       have hsl : SS.length = holes.length := by rw [← hf1]; exact hfl2 _
       have hN := hcb C.length (Nat.le_refl _)
       rw [hf2] at hN
       have hmul : IntKind.i64.wrap (24 * (N : Int)) = 24 * (N : Int) := wrap64 (by omega) (by omega)
       have hml : (SS.map (q1en N)).length = holes.length := by rw [List.length_map, hsl]
       clear hf1 hfb hfl2 hcb hcs hfs
       simp -implicitDefEqProofs only [eR', go_sem, intsO]
       refine ⟨by omega, by omega, ?_⟩
       refine SemC.loopR (σ := Nat) (fun i => St.of [(13, .t (.i N)), (18, .own 83), (87, .own 76), (88, .t (.i SS.length)), (89, .t (.i i))] [(76, intsO SS), (83, .arr 2 (ratC (q1nn (SS.map (q1en N)) i)))]) (fun i => i <= SS.length) (fun i => SS.length - i) 0 (Weak.o _ _ [some 91, some 86] ?_ ?_) (by omega) fun i hi R hn' hr he => ?_
       ·simp -implicitDefEqProofs only [wR', Nat.reduceBEq, Nat.reduceEqDiff, ↓reduceIte]
       ·exact ⟨⟨_, rfl, .refl _⟩, rfl, ⟨_, rfl, by rw [q1nd, ← hml]; simp only [q1nn, List.take_zero, List.nil_append, Nat.sub_zero]; exact .refl _⟩, rfl, trivial⟩
       ·have hrl := q1np (SS.map (q1en N)) i (by omega)
        rcases Nat.lt_or_ge i SS.length with h9 | h9
        ·obtain ⟨x, hx⟩ : ∃ x, SS[i]? = some x := ⟨_, List.getElem?_eq_getElem h9⟩
         have hxb := hsb x (List.mem_of_getElem? hx)
         have hred := q1jo x (24 * (N : Int)) (by omega) (by omega) (by omega) (by omega)
         simp -implicitDefEqProofs only [eR', go_sem, intsO, hx, hmul, decide_eq_true (show (i : Int) < (SS.length : Int) by omega)]
         refine ⟨by omega, by omega, by omega, ?_⟩
         refine q006.res hred [] rfl Tryz.call31 ?_ (.inl rfl) ?_
         ·simp -implicitDefEqProofs only [aR', go_sem]
         simp -implicitDefEqProofs only [cR', go_sem, redT, q0p1]
         refine ⟨by omega, by rw [q0p0]; omega, by rw [q0p0]; omega, ?_⟩
         refine hn' _ (i + 1) (Weak.o _ _ [some 76, some 83] ?_ ?_) (by omega) (by omega)
         ·simp -implicitDefEqProofs only [wR', Nat.reduceBEq, Nat.reduceEqDiff, ↓reduceIte, q0lb h9 (by omega)]
         ·refine ⟨⟨_, rfl, .refl _⟩, rfl, ⟨_, rfl, ?_⟩, rfl, trivial⟩
          have hxr : (SS.map (q1en N))[i]? = some (q1en N x) := by rw [List.getElem?_map, hx]; rfl
          (try simp only [List.cons_append, List.nil_append, List.append_assoc])
          have := q1ne (l := q1nn (SS.map (q1en N)) i) (i := i) (q1en N x) (by omega)
          simp only [List.append_assoc, List.cons_append, List.nil_append] at this
          rw [q1nq hxr] at this
          rw [← this]; exact .refl _
        ·simp -implicitDefEqProofs only [eR', go_sem, intsO, decide_eq_false (show ¬ (i : Int) < (SS.length : Int) by omega)]
         refine he _ _ ?_
         rw [show i = (SS.map (q1en N)).length by omega, q1no]
         simp -implicitDefEqProofs only [eR', go_sem, q0p1, eqO]
    ·refine ⟨fun _ => ?_, fun h => by simp at h; omega⟩
     simp [h4]
 ·rintro o r ⟨rfl, rfl | ⟨h3, rfl⟩⟩
  ·exact ⟨_, .refl _, rfl, rfl⟩
  ·refine ⟨eqO (q1xc v holes b), ?_, rfl, rfl⟩
   rw [eqO, h3]; exact .tup2 (.nilArr 2) (.refl _)
theorem q1xd (v : Int) (holes : List (List Int)) (b : List Int) : (q1xc v holes b).1.length <= 4 := by
 unfold q1xc
 split
 ·simp
 ·split
  ·exact q1ep v holes b []
  ·simp
end

def tot : List (List Int) -> Nat
 | [] => 0
 | r :: m => r.length + tot m
def q13p : List (List Int) -> Int -> List (List Int)
 | [], _ => []
 | r :: m, k => marks r.length k :: q13p m (k + r.length)
theorem q13r : ∀ (m : List (List Int)) (k : Int), (q13p m k).length = m.length
 | [], _ => rfl
 | r :: m, k => by simp [q13p, q13r m]
theorem q140 : ∀ (m m' : List (List Int)), tot (m ++ m') = tot m + tot m'
 | [], m' => by simp [tot]
 | r :: m, m' => by simp [tot, q140 m]; omega
theorem q13q : ∀ (m m' : List (List Int)) (k : Int), q13p (m ++ m') k = q13p m k ++ q13p m' (k + tot m)
 | [], m', k => by simp [q13p, tot]
 | r :: m, m', k => by simp only [List.cons_append, q13p, q13q m, tot]; rw [show k + (r.length : Int) + (tot m : Int) = k + ((r.length + tot m : Nat) : Int) by omega]
theorem q13i (m : List (List Int)) (k : Int) (hm : m.length <= 1000000000000) (ht : tot m <= 100000000000) (h0 : 0 <= k) (h1 : k <= 100000000000) :
  Fun Tryz.prog 13 [q0qa m] [.own 1000000000, .t (.i k)] fun o r => o = [q0qa (q13p m k)] /\ r = .i (k + tot m) := by
 refine q13a (by simp) ?_
 simp -implicitDefEqProofs only [eR', go_sem, q132, q0qa]
 refine SemC.loopR (σ := Nat) (fun i => St.of [(0, .own 1000000000), (1, .t (.i (k + tot (m.take i)))), (5, .t (.i i))] [(1000000000, .arr 1 ((q13p (m.take i) k ++ m.drop i).map intsO))]) (fun i => i <= m.length) (fun i => m.length - i) 0 (Weak.o _ _ [some 1000000000] ?_ ?_) (by simp) fun i hI R hn hr he => ?_
 ·simp -implicitDefEqProofs only [wR', Nat.reduceBEq, Nat.reduceEqDiff, ↓reduceIte, List.take_zero, tot, Int.add_zero]
 ·exact ⟨⟨_, rfl, .refl _⟩, rfl, trivial⟩
 ·have hlen : (q13p (m.take i) k ++ m.drop i).length = m.length := by simp [q13r]; omega
  simp -implicitDefEqProofs only [eR', go_sem, hlen, intsO]
  refine ⟨fun h => ⟨by omega, by omega, by omega, fun r hrow => ?_⟩, fun h => he _ _ ?_⟩
  ·have hi : i < m.length := by omega
   have hr0 : m[i]? = some r := by
    rw [List.getElem?_append_right (by rw [q13r, List.length_take]; omega), q13r, List.length_take, show i - min i m.length = 0 by omega, List.getElem?_drop] at hrow
    simpa using hrow
   have htk : tot (m.take i) + r.length <= tot m := by
    have e := q140 (m.take (i + 1)) (m.drop (i + 1))
    rw [List.take_append_drop, q0uj hr0, q140] at e
    simp only [tot] at e; omega
   have e1 : k + (tot (m.take (i + 1)) : Int) = k + (tot (m.take i) : Int) + (r.length : Int) := by
    rw [q0uj hr0, q140]; simp only [tot]; omega
   refine q006.ref (q13j r (k + tot (m.take i)) (by omega) (by omega) (by omega)) [15] [] rfl Tryz.call14 (by simp) ?_ (by simp) ?_ (.inl rfl) ?_
   ·simp -implicitDefEqProofs only [sR', Nat.reduceEqDiff, ↓reduceIte]
   ·simp -implicitDefEqProofs only [aR', go_sem]
   simp -implicitDefEqProofs only [cR', go_sem, intsO]
   refine hn _ (i + 1) (Weak.trans (Weak.join2 Tryz.prog q0wk (sl 14) (sl 15) rfl rfl rfl rfl (by decide) ?_) (Weak.o _ _ [some 1000000000] ?_ ?_)) (by omega) (by omega)
   ·rw [List.length_set, List.length_map, hlen]; omega
   ·simp -implicitDefEqProofs only [wR', Nat.reduceBEq, Nat.reduceEqDiff, ↓reduceIte, e1, q0lb (by omega : i < m.length) hm]
   ·refine ⟨⟨_, rfl, ?_⟩, rfl, trivial⟩
    rw [q0t9, List.set_set, q0uj hr0, q13q]
    simp only [q13p, List.append_assoc, List.cons_append, List.nil_append]
    rw [List.drop_eq_getElem_cons hi, List.map_append, List.set_append_right _ _ (by rw [List.length_map, q13r, List.length_take]; omega), List.length_map, q13r, List.length_take, show i - min i m.length = 0 by omega, List.map_append]
    exact .refl _
  ·simp -implicitDefEqProofs only [eR', go_sem]
   have : i = m.length := by omega
   subst this
   simp [q0qa]

theorem q02v : ∀ {m : List (List Int)} {left : Int}, 0 <= left -> 0 <= q02t m left -> (tot m : Int) <= left
 | [], left, _, _ => by simp [tot]; assumption
 | x :: m, left, h0, h => by
   simp only [q02t] at h
   split at h
   ·omega
   ·have := q02v (by omega) h
    simp only [tot]; omega
theorem q02s {m : List (List Int)} {left : Int} (h0 : 0 <= left) (h : 0 <= q02q m left) : (tot m : Int) <= left := by
 simp only [q02q] at h
 split at h
 ·omega
 ·have := q02v (by omega) h; omega

def neg (l : List Int) : List Int := l.map fun x => -x

def without (m : List (List Int)) (r c : Nat) : List (List Int) := (m.eraseIdx r).map fun l => l.eraseIdx c

def sq (n : Nat) (m : List (List Int)) : Prop := m.length = n /\ ∀ r ∈ m, r.length = n /\ ∀ x ∈ r, -20 <= x /\ x <= 20

def parts (full : Nat -> List Int) (cur : List Int) (n i : Nat) : List (List Int) := (List.range n).map fun j => if j < i then full j else if j = i then cur else []

def ones (r : List Int) : List (Int × Int) := r.map fun x => (x, 1)

def q1l0 : Nat -> Int -> List (Int × Int)
 | 0, _ => []
 | n + 1, k => (k, k + 1) :: q1l0 n (k + 2)
theorem q1l1 : ∀ (n : Nat) (k : Int), (q1l0 n k).length = n
 | 0, _ => rfl
 | n + 1, k => by simp [q1l0, q1l1 n]
theorem q1l2 : ∀ (n : Nat) (k : Int), q1l0 (n + 1) k = q1l0 n k ++ [(k + 2 * n, k + 2 * n + 1)]
 | 0, k => by simp [q1l0]
 | n + 1, k => by
   rw [q1l0, q1l2 n (k + 2), q1l0]
   have : k + 2 + 2 * (n : Int) = k + 2 * ((n + 1 : Nat) : Int) := by omega
   rw [this]; rfl
def q1ip : List (Int × Int) -> Int -> Int
 | [], k => k
 | x :: l, k => if x.1 = k then (if x.2 = k + 1 then q1ip l (k + 2) else -1) else -1
theorem q1iq : ∀ (n : Nat) (k : Int), q1ip (q1l0 n k) k = k + 2 * n
 | 0, k => by simp [q1l0, q1ip]
 | n + 1, k => by simp [q1l0, q1ip, q1iq n (k + 2)]; omega
def q1mz (l : List (Int × Int)) (k : Int) (i : Nat) : List (Int × Int) := q1l0 i k ++ l.drop i
theorem q1n0 (l : List (Int × Int)) (k : Int) (i : Nat) (h : i <= l.length) : (q1mz l k i).length = l.length := by simp [q1mz, q1l1]; omega
theorem q1n1 {l : List (Int × Int)} {i : Nat} (k : Int) (h : i < l.length) : (q1mz l k i).set i (k + 2 * i, k + 2 * i + 1) = q1mz l k (i + 1) := by
 rw [q1mz, q1mz, q1l2, List.drop_eq_getElem_cons h, List.set_append_right _ _ (by rw [q1l1]; omega), q1l1, Nat.sub_self]
 simp only [List.set_cons_zero, List.append_assoc, List.cons_append, List.nil_append]
theorem q1nf {l : List (Int × Int)} {i : Nat} (a b : Int) (h : i < l.length) : ((ratC l).set (i * 2) (T.i a)).set (i * 2 + 1) (T.i b) = ratC (l.set i (a, b)) := by
 have h0 : i * 2 < (ratC l).length := by rw [q0p0]; omega
 have h1 : i * 2 + 1 < (ratC l).length := by rw [q0p0]; omega
 rw [← q1ne (a, b) h]
 refine List.ext_getElem? fun j => ?_
 rw [List.getElem?_set, List.getElem?_set, List.length_set]
 by_cases e1 : i * 2 + 1 = j
 ·subst e1
  rw [if_pos rfl, if_pos h1, List.append_assoc, List.getElem?_append_right (by rw [List.length_take]; omega), List.length_take, Nat.min_eq_left (by omega)]
  have : i * 2 + 1 - i * 2 = 1 := by omega
  rw [this]; rfl
 ·rw [if_neg e1]
  by_cases e0 : i * 2 = j
  ·subst e0
   rw [if_pos rfl, if_pos h0, List.append_assoc, List.getElem?_append_right (by rw [List.length_take]; omega), List.length_take, Nat.min_eq_left (by omega), Nat.sub_self]; rfl
  ·rw [if_neg e0]
   rcases Nat.lt_or_ge j (i * 2) with hj | hj
   ·rw [List.append_assoc, List.getElem?_append_left (by rw [List.length_take]; omega), List.getElem?_take, if_pos hj]
   ·rw [List.getElem?_append_right (by simp; omega), List.getElem?_drop]
    congr 1; simp; omega

theorem q1ko (l : List (Int × Int)) (k : Int) (hl : l.length <= 100000000000) (h0 : 0 <= k) (h1 : k <= 1000000000000) :
  Fun Tryz.prog 15 [q0p1 l] [.own 1000000000, .t (.i k)] fun o r => o = [q0p1 (q1l0 l.length k)] /\ r = .i (k + 2 * l.length) := by
 refine q1gp (by simp) ?_
 simp -implicitDefEqProofs only [eR', go_sem, q1bs, q0p1]
 refine SemC.loopR (σ := Nat) (fun i => St.of [(0, .own 1000000000), (1, .t (.i (k + 2 * i))), (5, .t (.i i))] [(1000000000, .arr 2 (ratC (q1mz l k i)))]) (fun i => i <= l.length) (fun i => l.length - i) 0 (Weak.o _ _ [some 1000000000] ?_ ?_) (by simp) fun i hI R hn hr he => ?_
 ·simp -implicitDefEqProofs only [wR', Nat.reduceBEq, Nat.reduceEqDiff, ↓reduceIte, Int.mul_zero]
 ·exact ⟨⟨_, rfl, by simp only [q1mz, q1l0, List.drop_zero, List.nil_append]; exact .refl _⟩, rfl, trivial⟩
 ·have hlen := q1n0 l k i hI
  have hrl : (ratC (q1mz l k i)).length = l.length * 2 := by rw [q0p0, hlen]
  simp -implicitDefEqProofs only [eR', go_sem, hrl, hlen]
  refine ⟨fun h => ⟨by omega, by omega, ?_⟩, fun h => he _ _ ?_⟩
  ·have hil : i < l.length := by omega
   have w1 : IntKind.i64.wrap (k + 2 * (i : Int) + 1) = k + 2 * i + 1 := wrap64 (by omega) (by omega)
   have w2 : IntKind.i64.wrap (k + 2 * (i : Int) + 1 + 1) = k + 2 * ((i + 1 : Nat) : Int) := by rw [wrap64 (by omega) (by omega)]; omega
   refine ⟨by omega, by omega, by omega, by omega, hn _ (i + 1) (Weak.o _ _ [some 1000000000] ?_ ?_) (by omega) (by omega)⟩
   ·simp -implicitDefEqProofs only [wR', Nat.reduceBEq, Nat.reduceEqDiff, ↓reduceIte, w1, w2, q0lb (by omega : i < l.length) (by omega)]
   ·refine ⟨⟨_, rfl, ?_⟩, rfl, trivial⟩
    rw [w1, q1nf _ _ (by omega), q1n1 k hil]
    exact .refl _
  ·simp -implicitDefEqProofs only [eR', go_sem]
   have : i = l.length := by omega
   subst this
   rw [q1mz, List.drop_of_length_le (Nat.le_refl _), List.append_nil]; exact ⟨rfl, rfl⟩

theorem q1kn (l : List (Int × Int)) (k : Int) (hl : l.length <= 100000000000) (h0 : 0 <= k) (h1 : k <= 1000000000000) :
  Pure Tryz.prog 16 [rats l, .i k] (.i (q1ip l k)) := by
 refine q1go (by simp) ?_
 simp -implicitDefEqProofs only [eR', go_sem, q1br]
 refine SemC.loopR (σ := Nat) (fun i => St.of [(0, .t (rats l)), (1, .t (.i (k + 2 * i))), (5, .t (.i i))] []) (fun i => i <= l.length /\ q1ip (l.drop i) (k + 2 * i) = q1ip l k) (fun i => l.length - i) 0 (Weak.o _ [] [] ?_ trivial) (by simp) fun i hI R hn hr he => ?_
 ·simp -implicitDefEqProofs only [ints, rows, wkR, Nat.reduceEqDiff, ↓reduceIte, rats, Int.mul_zero]
 ·simp -implicitDefEqProofs only [eR', go_sem]
  have hd := hI.2
  refine ⟨fun h => ⟨by omega, by rw [q0p0]; omega, ?_⟩, fun h => he _ _ ?_⟩
  ·have hil : i < l.length := by omega
   obtain ⟨x, hx⟩ : ∃ x, l[i]? = some x := ⟨_, List.getElem?_eq_getElem hil⟩
   rw [q08a hx, q1ip] at hd
   have w1 : IntKind.i64.wrap (k + 2 * (i : Int) + 1) = k + 2 * i + 1 := wrap64 (by omega) (by omega)
   have w2 : IntKind.i64.wrap (k + 2 * (i : Int) + 1 + 1) = k + 2 * ((i + 1 : Nat) : Int) := by rw [wrap64 (by omega) (by omega)]; omega
   simp -implicitDefEqProofs only [eR', go_sem, q1nb hx, q1nc hx, w1, w2]
   refine ⟨by rw [q0p0]; omega, fun h1 => hr _ ?_, fun h1 => ⟨by omega, by rw [q0p0]; omega, by rw [q0p0]; omega, fun h2 => hr _ ?_, fun h2 => hn _ (i + 1) (Weak.o _ [] [] ?_ trivial) ⟨by omega, ?_⟩ (by omega)⟩⟩
   ·simp -implicitDefEqProofs only [eR', go_sem]
    rw [if_neg (by simpa using h1)] at hd
    rw [hd]
   ·simp -implicitDefEqProofs only [eR', go_sem]
    rw [if_pos (by simpa using h1), if_neg (by simpa using h2)] at hd
    rw [hd]
   ·simp -implicitDefEqProofs only [ints, rows, wkR, Nat.reduceEqDiff, ↓reduceIte, rats, w1, w2, q0lb (by omega : i < l.length) (by omega)]
   ·rw [if_pos (by simpa using h1), if_pos (by simpa using h2)] at hd
    rw [← hd]; congr 1; omega
  ·simp -implicitDefEqProofs only [eR', go_sem]
   rw [List.drop_of_length_le (by omega), q1ip] at hd
   rw [hd]

theorem q1ao : ∀ (m : List (List Int)) {left : Int}, 0 <= left -> q02t m left <= left
 | [], left, h => by simp [q02t]
 | r :: m, left, h => by
   rw [q02t]
   split
   ·omega
   ·have := q1ao m (left := left - r.length) (by omega); omega
theorem q1an {m : List (List Int)} {left : Int} (h : 0 <= left) : q02q m left <= left := by
 rw [q02q]; split
 ·omega
 ·have := q1ao m (left := left - m.length) (by omega); omega

theorem q1fd : ∀ m : List (List Int), m.flatten.length = tot m
 | [] => rfl
 | r :: m => by rw [List.flatten_cons, List.length_append, q1fd m, tot]

theorem q1yj (v : Int)  (m : List (List Int)) (hm : (m.length : Int) <= 9223372036854775807) (hmr : ∀ r ∈ m, (r.length : Int) <= 9223372036854775807) (b : List Int) (hb : (b.length : Int) <= 9223372036854775807) : Pure Tryz.prog 3 [.i v, rows m, ints b] (.b true) := by
 refine q1xw (by simp) ?_
 simp -implicitDefEqProofs only [eR', go_sem, q1wa]
 refine ⟨fun _ => trivial, fun hb2 => ?_⟩
 refine q006.p (q0hl m 1048576 hm hmr (by omega) (by omega)) [] rfl Tryz.call5 ?_ ?_
 ·simp -implicitDefEqProofs only [aR', go_sem]
 simp -implicitDefEqProofs only [eR', go_sem]
 refine ⟨fun _ => trivial, fun hb1 => ?_⟩
 obtain ⟨hm1, hmr1⟩ := q02r (m := m) (left := 1048576) (by omega) (by omega)
 have hmt := q02s (m := m) (left := 1048576) (by omega) (by omega)
 have hmb := q1an (m := m) (left := 1048576) (by omega)
 have hm2 : (m.length : Int) <= 1000000000000 := by omega
 have hmr2 : ∀ r ∈ m, (r.length : Int) <= 1000000000000 := fun r h => by have := hmr1 r h; omega
 have hmr3 : ∀ r ∈ m, r.length <= 1000000000000 := fun r h => by have := hmr1 r h; omega
 have hfl := q1fd m
 have hf01 := (q1xd v m b)
 refine q006.res (q0hr m hm2 hmr2) [] rfl Tryz.call7 ?_ (.inl rfl) ?_
 ·simp -implicitDefEqProofs only [aR', go_sem]
 simp -implicitDefEqProofs only [cR', go_sem]
 refine q006.res (q0hs b (by omega)) [] rfl Tryz.call8 ?_ (.inl rfl) ?_
 ·simp -implicitDefEqProofs only [aR', go_sem]
 simp -implicitDefEqProofs only [cR', go_sem]
 refine q006.res (q1zh v m b (by omega) (by omega) (by omega)) [30, 32] rfl Tryz.call6 ?_ (.inr (q1em _)) ?_
 ·simp -implicitDefEqProofs only [aR', go_sem]
 simp -implicitDefEqProofs only [cR', go_sem, eqO, not_true_eq_false, decide_false]
 refine q006.res (q0hr m hm2 hmr2) [] rfl Tryz.call7 ?_ (.inl rfl) ?_
 ·simp -implicitDefEqProofs only [aR', go_sem]
 simp -implicitDefEqProofs only [cR', go_sem]
 refine q006.res (q0hs b (by omega)) [] rfl Tryz.call8 ?_ (.inl rfl) ?_
 ·simp -implicitDefEqProofs only [aR', go_sem]
 simp -implicitDefEqProofs only [cR', go_sem]
 refine q006.res (q1y9 v m b (by omega) (by omega) (by omega)) [37, 39] rfl Tryz.call9 ?_ (.inr (q1em _)) ?_
 ·simp -implicitDefEqProofs only [aR', go_sem]
 simp -implicitDefEqProofs only [cR', go_sem, eqO, not_true_eq_false, decide_false]
 refine q006.p (q1kl (q1xc v m b).1 (q1xc v m b).1 (by omega) (by omega)) [44, 33] rfl Tryz.call10 ?_ ?_
 ·simp -implicitDefEqProofs only [aR', go_sem]
 simp -implicitDefEqProofs only [eR', go_sem]
 refine q006.res (q0hr m hm2 hmr2) [] rfl Tryz.call7 ?_ (.inl rfl) ?_
 ·simp -implicitDefEqProofs only [aR', go_sem]
 simp -implicitDefEqProofs only [cR', go_sem]
 refine q006.p (q0hf m m (by omega) (by omega) hmr3 hmr3) [37, 58] rfl Tryz.call11 ?_ ?_
 ·simp -implicitDefEqProofs only [aR', go_sem]
 simp -implicitDefEqProofs only [eR', go_sem]
 refine q006.res (q0hs b (by omega)) [] rfl Tryz.call8 ?_ (.inl rfl) ?_
 ·simp -implicitDefEqProofs only [aR', go_sem]
 simp -implicitDefEqProofs only [cR', go_sem]
 refine q006.p (q0hg b b (by omega) (by omega)) [39, 63] rfl Tryz.call12 ?_ ?_
 ·simp -implicitDefEqProofs only [aR', go_sem]
 simp -implicitDefEqProofs only [eR', go_sem]
 refine q006.ref (q13i m 1 (by omega) (by omega) (by omega) (by omega)) [37] [] rfl Tryz.call13 (by simp) ?_ (by simp) ?_ (.inl rfl) ?_
 ·simp -implicitDefEqProofs only [sR', Nat.reduceEqDiff, ↓reduceIte]
 ·simp -implicitDefEqProofs only [aR', go_sem]
 simp -implicitDefEqProofs only [cR', go_sem]
 refine q006.ref (q13j b (1 + tot m) (by omega) (by omega) (by omega)) [39] [] rfl Tryz.call14 (by simp) ?_ (by simp) ?_ (.inl rfl) ?_
 ·simp -implicitDefEqProofs only [sR', Nat.reduceEqDiff, ↓reduceIte]
 ·simp -implicitDefEqProofs only [aR', go_sem]
 simp -implicitDefEqProofs only [cR', go_sem]
 refine ⟨fun _ => ?_, fun h => absurd h (by omega)⟩
 refine q006.p (q1kl (q1xc v m b).1 (q1xc v m b).1 (by omega) (by omega)) [44, 33] rfl Tryz.call10 ?_ ?_
 ·simp -implicitDefEqProofs only [aR', go_sem]
 simp -implicitDefEqProofs only [eR', go_sem]
 refine q006.ref (q1ko (q1xc v m b).1 1 (by omega) (by omega) (by omega)) [44] [] rfl Tryz.call15 (by simp) ?_ (by simp) ?_ (.inl rfl) ?_
 ·simp -implicitDefEqProofs only [sR', Nat.reduceEqDiff, ↓reduceIte]
 ·simp -implicitDefEqProofs only [aR', go_sem]
 simp -implicitDefEqProofs only [cR', go_sem]
 have hheld0 := q1iq (q1xc v m b).1.length 1
 refine q006.p (q1kn (q1l0 (q1xc v m b).1.length 1) 1 (by rw [q1l1]; omega) (by omega) (by omega)) [44] rfl Tryz.call16 ?_ ?_
 ·simp -implicitDefEqProofs only [aR', go_sem]
 simp -implicitDefEqProofs only [eR', go_sem, hheld0]
 refine ⟨fun h => absurd h (by omega), fun _ => ?_⟩
 refine q006.res (q0hr m hm2 hmr2) [] rfl Tryz.call7 ?_ (.inl rfl) ?_
 ·simp -implicitDefEqProofs only [aR', go_sem]
 simp -implicitDefEqProofs only [cR', go_sem]
 refine q006.res (q0hs b (by omega)) [] rfl Tryz.call8 ?_ (.inl rfl) ?_
 ·simp -implicitDefEqProofs only [aR', go_sem]
 simp -implicitDefEqProofs only [cR', go_sem]
 refine q006.res (q1y9 v m b (by omega) (by omega) (by omega)) [99, 101] rfl Tryz.call9 ?_ (.inr (q1em _)) ?_
 ·simp -implicitDefEqProofs only [aR', go_sem]
 simp -implicitDefEqProofs only [cR', go_sem, eqO, not_true_eq_false, decide_false]
 refine q006.p (q1kl (q1xc v m b).1 (q1xc v m b).1 (by omega) (by omega)) [102, 33] rfl Tryz.call10 ?_ ?_
 ·simp -implicitDefEqProofs only [aR', go_sem]
 simp -implicitDefEqProofs only [eR', go_sem]
 refine q006.p (q1kn (q1l0 (q1xc v m b).1.length 1) 1 (by rw [q1l1]; omega) (by omega) (by omega)) [44] rfl Tryz.call16 ?_ ?_
 ·simp -implicitDefEqProofs only [aR', go_sem]
 simp -implicitDefEqProofs only [eR', go_sem, hheld0]
 exact ⟨fun h => absurd h (by omega), fun _ => trivial⟩
end Go.Ab

namespace Go.Proofs.YtjeefbiiagflhaaGreat
open Go.ChangeShapes Go.WideShapes Go.ChangeAt Go.RowKit Go.Ab

namespace fnExactFastEquities
theorem said : ∀ xs, wtL [(.int .i64), q0wm, (.sl 1 (.int .i64))] xs -> Pure Tryz.prog 3 xs (.b true)
 | [x0, x1, x2], h => by
   obtain ⟨v, rfl, _⟩ := q0xt h.1
   obtain ⟨m, rfl, hm, hmr⟩ := q0xw h.2.1
   obtain ⟨b, rfl, hb, _⟩ := q0xu h.2.2.1
   exact q1yj v  m (by omega) (fun r h => by have := (hmr r h).1; omega) b (by omega)
 | [], h => h.elim
 | [_], h => h.2.elim
 | [_, _], h => h.2.2.elim
 | _ :: _ :: _ :: _ :: _, h => h.2.2.2.elim

set_option maxRecDepth 100000 in
theorem lifted (os : Os) (started : os.Started) (H : Type) (enc : TypeId × Value -> H) :
  ReturnsInHanded {} Tryz.checked os 3 .any (Rows.fnExactFastEquitiesSpec.pre6 enc Tryz.prog Tryz.f3 Rows.fnExactFastEquitiesRow.domain false) (Rows.fnExactFastEquitiesSpec.post enc Tryz.prog Tryz.f3 false true false false) := by
 refine returnsInHanded_of_change (C := Tryz.checked) (by kernel_rfl) started (by kernel_rfl) Tryz.func3
  (ChangeSpec.witness6 (enc := enc) (C := Tryz.checked) false ⟨#[], #[.int .i64 0, .slice none 0 0, .slice none 0 0], []⟩ 8 (by kernel_rfl) (by kernel_rfl) (by kernel_rfl) (by kernel_rfl)) ?_
 intro W base args ds gs before hval hW _ _
 refine q0hc (tys := [(.int .i64), q0wm, (.sl 1 (.int .i64))]) (by kernel_rfl) (by kernel_rfl) rfl (by kernel_rfl) rfl (fun ds h => ?_) said W base args ds gs before hval hW
 match ds, h with
 | [d0, d1, d2], _ => rfl

theorem andT {a b : Bool} (ha : a = true) (hb : b = true) : (a && b) = true := by rw [ha, hb]; rfl
theorem q0g8 : ((Rows.fnExactFastEquitiesRow.wf (OpenSpec.ofChange Rows.fnExactFastEquitiesSpec))) = true := by kernel_rfl
theorem q0g9 : (laidOutB Tryz.prog) = true := Tryz.laidOutT
theorem q0gk : (mapsRowed Tryz.prog) = true := Tryz.mapsRowedT
theorem q0gv : (Tryz.f3.params.all (Tryz.prog.readableRec ·)) = true := by kernel_rfl
theorem q0gy : (namedTie Tryz.prog Rows.fnExactFastEquitiesRow.named Rows.fnExactFastEquitiesSpec.vars) = true := by kernel_rfl
theorem q0gz : ((Rows.fnExactFastEquitiesRow.stops == [])) = true := by kernel_rfl
theorem q0h0 : ((Tryz.prog.stops == [])) = true := by kernel_rfl
theorem q0h1 : ((Rows.fnExactFastEquitiesRow.knobs == [])) = true := by kernel_rfl
theorem q0h2 : ((Tryz.prog.stopKnobs == [])) = true := by kernel_rfl
theorem q0h3 : ((Rows.fnExactFastEquitiesRow.inPlace == Tryz.prog.inPlace 3)) = true := by kernel_rfl
theorem q0ga : ((Rows.fnExactFastEquitiesRow.unfollowed == Tryz.prog.unfollowed 3)) = true := by kernel_rfl
theorem q0gb : ((Rows.fnExactFastEquitiesRow.recurses == Tryz.prog.recurses 3)) = true := by kernel_rfl
theorem q0gc : ((Rows.fnExactFastEquitiesRow.named == Tryz.prog.varsNamed 3)) = true := by kernel_rfl
theorem q0gd : ((Rows.fnExactFastEquitiesRow.maps == (Tryz.f3.params.toList ++ Rows.fnExactFastEquitiesSpec.plain.varTypes Tryz.prog).any (Tryz.prog.mapsRec ·))) = true := by kernel_rfl
theorem q0ge : ((Rows.fnExactFastEquitiesRow.ifaces == (Tryz.f3.params.toList ++ Rows.fnExactFastEquitiesSpec.plain.varTypes Tryz.prog).any (Tryz.prog.ifacesRec ·))) = true := by kernel_rfl
theorem q0gf : ((Rows.fnExactFastEquitiesRow.mapsOut == Tryz.prog.mapsAmong Tryz.f3.resultTypes.toList)) = true := by kernel_rfl
theorem q0gg : ((Rows.fnExactFastEquitiesRow.loops == (Tryz.f3.params.toList ++ Rows.fnExactFastEquitiesSpec.plain.varTypes Tryz.prog).any (Tryz.prog.loopsFrom ·))) = true := by kernel_rfl
theorem q0gh : ((Rows.fnExactFastEquitiesRow.wideKeys == (Tryz.f3.params.toList ++ Rows.fnExactFastEquitiesSpec.plain.varTypes Tryz.prog ++ Tryz.f3.resultTypes.toList).any (Tryz.prog.wideKeysFrom ·))) = true := by kernel_rfl
theorem q0gi : (Rows.fnExactFastEquitiesSpec.vars.all (Tryz.prog.varReadable ·)) = true := by kernel_rfl
theorem q0gj : (Tryz.f3.resultTypes.all (fun t => Tryz.prog.readableRec t && decide (t < Tryz.prog.types.size))) = true := by kernel_rfl
theorem q0gl : ((Rows.fnExactFastEquitiesRow.ifacesOut == Tryz.f3.resultTypes.toList.any (Tryz.prog.ifacesRec ·))) = true := by kernel_rfl
theorem q0gm : ((Rows.fnExactFastEquitiesRow.loopsOut == Tryz.f3.resultTypes.toList.any (Tryz.prog.loopsFrom ·))) = true := by kernel_rfl
theorem q0gn : ((Rows.fnExactFastEquitiesRow.plainKeys == Tryz.prog.plainKeys)) = true := by kernel_rfl
theorem q0go : (Rows.fnExactFastEquitiesRow.shortTexts.isNone) = true := by kernel_rfl
theorem q0gp : (Tryz.prog.stopsHeard) = true := Tryz.heardT
theorem q0gq : (Tryz.prog.mayEnter) = true := Tryz.mayEnterT
theorem q0gr : ((Rows.fnExactFastEquitiesRow.lifted == Tryz.prog.liftsFinal)) = true := (by rw [Tryz.liftsF]; rfl)
theorem q0gs : ((Tryz.prog.make == some Rows.fnExactFastEquitiesRow.make)) = true := (by rw [Tryz.makeC]; rfl)
theorem q0gt : ((Rows.fnExactFastEquitiesRow.kinds == (if Rows.fnExactFastEquitiesRow.domain.isEmpty then [] else Tryz.f3.params.toList.map fun t => match Tryz.prog.underlying t with | some (.int k) => some k | _ => none))) = true := by kernel_rfl
theorem q0gu : ((Rows.fnExactFastEquitiesRow.pinned == Rows.fnExactFastEquitiesRow.pinnedBy)) = true := by kernel_rfl
theorem q0gw : ((Rows.fnExactFastEquitiesRow.veiled == (Tryz.f3.params.toList ++ Rows.fnExactFastEquitiesSpec.plain.varTypes Tryz.prog ++ Tryz.f3.resultTypes.toList).any (Tryz.prog.veiledRec ·))) = true := by kernel_rfl
theorem q0gx : (Rows.fnExactFastEquitiesRow.veiledFits Tryz.prog Tryz.f3.params.toList (Tryz.f3.params.toList ++ Rows.fnExactFastEquitiesSpec.plain.varTypes Tryz.prog ++ Tryz.f3.resultTypes.toList)) = true := by kernel_rfl
set_option maxRecDepth 100000 in
theorem joined : joinedFacts Tryz.prog 3 Tryz.f3 Rows.fnExactFastEquitiesSpec Rows.fnExactFastEquitiesRow = true := by
 unfold joinedFacts
 exact andT (andT (andT (andT (andT (andT (andT (andT (andT (andT (andT (andT (andT (andT (andT (andT (andT (andT (andT (andT (andT (andT (andT (andT (andT (andT (andT (andT (andT (andT (andT (q0g8) q0g9) q0gk) q0gv) q0gy) q0gz) q0h0) q0h1) q0h2) q0h3) q0ga) q0gb) q0gc) q0gd) q0ge) q0gf) q0gg) q0gh) q0gi) q0gj) q0gl) q0gm) q0gn) q0go) q0gp) q0gq) q0gr) q0gs) q0gt) q0gu) q0gw) q0gx
theorem over : Rows.fnExactFastEquitiesRow.holds Tryz.pinned (OpenSpec.ofChange Rows.fnExactFastEquitiesSpec) :=
 OpenClaim.holds_of_wide 3 Tryz.f3 rfl rfl rfl rfl rfl rfl rfl ⟨rfl, rfl, rfl, rfl, rfl⟩ rfl rfl rfl rfl rfl (by kernel_rfl) Tryz.func3 joined
  (of_decide_eq_true (by kernel_rfl)) (by unfold Func.isWrapper; first | (rw [if_pos (by decide +kernel)]; kernel_rfl) | (rw [if_neg (by decide +kernel)]; exact ⟨rfl, rfl⟩))
  (fun os started H enc _ => lifted os started H enc)
end fnExactFastEquities

theorem fnExactFastEquities_holds : Rows.FnExactFastEquitiesSaid := fnExactFastEquities.over
#print axioms fnExactFastEquities_holds
end Go.Proofs.YtjeefbiiagflhaaGreat
