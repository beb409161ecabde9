/- Contracts: uniform strategies; drawn games with strategies. -/
import Derived.Test.YtkmmkgpnlmdcfaaQ6
set_option linter.unusedSimpArgs false
set_option linter.unusedVariables false
set_option maxRecDepth 20000
namespace Go.Ab
open Go.Proofs
theorem q12i {A C : Prop} (t : C) (h : C -> A) : A := h t
theorem q11r {g : Gm} (h : q11q g) : q0cf g := by
  obtain ⟨⟨h1, h2⟩, h3, h4, h5, h6⟩ := h
  exact ⟨by omega, fun x hx => by have := h2 x hx; omega, ⟨by omega, fun r hr => by have := h4 r hr; omega⟩, by omega, fun r hr => by have := h6 r hr; omega⟩
section
attribute [-go_sem] q0i5 q0id fldC lenC idxC q0ip q0lp
end
end Go.Ab

/- Games as data: what the laws of best responses and bounds say. -/
namespace Go.Ab

theorem q167 {g : Gm} {s t : Int × List (List Int)} (h : q0nn g s t = true) : 0 <= q01x g t - gnum g s.2 t.2 /\ 0 <= q01x g s + gnum g s.2 t.2 /\ q01x g t - gnum g s.2 t.2 + (q01x g s + gnum g s.2 t.2) = expN g s t /\ 0 <= expN g s t /\ -q01x g s <= gnum g s.2 t.2 /\ gnum g s.2 t.2 <= q01x g t := by
  obtain ⟨h1, h2, h3⟩ := q110 h
  obtain ⟨_, _, h4, h5⟩ := q0np h
  have b1 := q102 (g := g) (s := s.2) (t := t.2) h1 h2 h3
  have b2 := q101 (g := g) (s := s.2) (t := t.2) h1 h2 h3
  have e1 : q01x g t = runV g t.2 0 g.w.length := by rw [q01x, h5]; rfl
  have e2 : q01x g s = runV g s.2 1 g.w.length := by rw [q01x, h4]; rfl
  rw [expN, e1, e2]
  omega
end Go.Ab

/- Games as data: the strategies of a run are strategies; its numbers stay small. -/
namespace Go.Ab

theorem q14q : ∀ (l : List Int) (a : Int), ∀ x ∈ l, x <= l.foldl max a
  | [], _ => by simp
  | y :: l, a => by
    intro x hx
    rw [List.foldl_cons]
    rcases List.mem_cons.1 hx with rfl | hx
    . have := q09o l (max a x); omega
    . exact q14q l _ x hx
theorem q14i : ∀ (f : Nat) (l : List Int), okW (W f) l -> ∀ x ∈ hvd f l, 0 <= x /\ x <= 1000000000
  | 0, l, h => fun x hx => by
    have h1 := h x hx
    have h2 : W 0 = 536870912 := rfl
    omega
  | f + 1, l, h => by
    rw [hvd]
    split
    . rename_i hm
      intro x hx
      have h1 : x <= mx0 l := q14q l 0 x hx
      exact ⟨(h x hx).1, by omega⟩
    . exact q14i f (half l) (q0ma (by rw [← q00f]; exact h))
theorem q155 {l : List Int} {B : Int} (h : ∀ x ∈ l, -B <= x /\ x <= B) (hB : B < 9223372036854775808) : okW 9223372036854775808 (posL l) := by
  intro x hx
  obtain ⟨y, hy, rfl⟩ := List.mem_map.1 hx
  have := h y hy
  omega
theorem W34 : W 34 = 9223372036854775808 := by
  unfold W
  have h2 : (2 : Nat) ^ 63 = 9223372036854775808 := by decide
  omega
theorem q15h {l : List Int} {B : Int} (h : ∀ x ∈ l, -B <= x /\ x <= B) (hB : B < 9223372036854775808) (h1 : 1 <= l.length) (h4 : l.length <= 4) : q0xj (hvd 34 (posL l)) := by
  refine ⟨?_, ?_, ?_⟩
  . rw [q0dz]; simpa [posL] using h1
  . rw [q0dz]; simpa [posL] using h4
  . exact q14i 34 _ (by rw [W34]; exact q155 h hB)
theorem q14x {t q : Int} (ht : 0 < t) (h : -t < t * q) : 0 <= q := by
  rcases Int.lt_or_le q 0 with h1 | h1
  . have : t * q <= t * (-1) := Int.mul_le_mul_of_nonneg_left (by omega) (by omega)
    omega
  . exact h1
theorem q15s {l : List Int} (h : ∀ x ∈ l, 0 <= x) : ∀ x ∈ l, x <= l.sum := by
  induction l with
  | nil => simp
  | cons y l ih =>
    intro x hx
    have h0 := q0ub (w := l) fun z hz => h z (by simp [hz])
    rw [List.sum_cons]
    rcases List.mem_cons.1 hx with rfl | hx
    . omega
    . have h1 := ih (fun z hz => h z (by simp [hz])) x hx
      have h2 := h y (by simp)
      omega
theorem q14g {w : List Int} (hw : ∀ x ∈ w, 0 <= x) (ht : 0 < w.sum) : ∀ x ∈ ham1 w, 0 <= x /\ x <= 60 := by
  obtain ⟨h1, h2, h3⟩ := q0dm hw ht
  have h0 : ∀ x ∈ ham1 w, 0 <= x := fun x hx => by
    obtain ⟨i, hi, rfl⟩ := List.mem_iff_getElem.1 hx
    have hiw : i < w.length := by omega
    have h4 := (h3 i hiw).1
    have h5 : (ham1 w).getD i 0 = (ham1 w)[i] := by rw [List.getD_eq_getElem?_getD, List.getElem?_eq_getElem hi]; rfl
    have h6 : 0 <= w.getD i 0 := by rw [List.getD_eq_getElem?_getD, List.getElem?_eq_getElem hiw]; exact hw _ (List.getElem_mem hiw)
    rw [h5] at h4
    exact q14x ht (by omega)
  intro x hx
  have := q15s h0 x hx
  exact ⟨h0 x hx, by omega⟩
theorem q14h {w : List Int} (hw : ∀ x ∈ w, 0 <= x) (hl : 1 <= w.length) : ∀ x ∈ ham w, 0 <= x /\ x <= 60 := by
  have h0 := q0ub hw
  unfold ham
  split
  . exact q14g (fun x hx => by simp [q0mb] at hx; omega) (by rw [q0me]; omega)
  . exact q14g hw (by omega)
theorem q15e {l : List Int} {B : Int} (h : ∀ x ∈ l, -B <= x /\ x <= B) (hB : B < 9223372036854775808) (h1 : 1 <= l.length) (h4 : l.length <= 4) : (rowP l).length = l.length /\ (∀ x ∈ rowP l, 0 <= x /\ x <= 60) /\ sumI (rowP l) = 60 := by
  have hw := q15h h hB h1 h4
  have hs := q0dp (fun x hx => (hw.2.2 x hx).1) hw.1
  refine ⟨?_, q14h (fun x hx => (hw.2.2 x hx).1) hw.1, by rw [q0u0]; exact hs.2.1⟩
  show (ham _).length = _
  rw [hs.1, q0dz]; simp [posL]
theorem q15o (m : List (List Int)) : (stM m).length = m.length := by simp [stM]
theorem q15n {m : List (List Int)} {i : Nat} {r : List Int} (h : m[i]? = some r) : (stM m)[i]? = some (rowP r) := by simp [stM, h]
theorem q15p {g : Gm} (hg : q0fl g = true) {pl B : Int} (hpl : pl = 0 ∨ pl = 1) {m : List (List Int)} (h : okM g pl B m) (hB : B < 9223372036854775808) : q0ft g pl (stM m) = true := by
  rw [q0fu]
  refine ⟨by rw [q15o]; exact h.1, fun i hi => ?_⟩
  obtain ⟨r, hr, _, hl, hb⟩ := q150 h hi
  obtain ⟨b1, b2⟩ := q0ri hg hpl hi
  obtain ⟨q1, q2, q3⟩ := q15e hb hB (by omega) (by omega)
  rw [List.getD_eq_getElem?_getD, q15n hr, Option.getD_some, q0nu]
  refine ⟨by omega, List.all_eq_true.2 fun x hx => by simpa using q2 x hx, by rw [← q0u0]; exact q3⟩
theorem q14r {g : Gm} {s t : List (List Int)} (hg : q0fl g = true) {pl : Int} (hpl : pl = 0 ∨ pl = 1) (hm : q0nw g (q10l pl s t) pl) {i : Nat} (hi : i < (sets g pl).length) : (q10l pl s t)[i]? = some ((q10l pl s t).getD i []) /\ ((q10l pl s t).getD i []).length = q0rh g pl i /\ (∀ x ∈ (q10l pl s t).getD i [], 0 <= x /\ x <= 60) /\ sumI ((q10l pl s t).getD i []) = 60 := by
  obtain ⟨p1, p2, p3, p4, p5⟩ := q0fn hg
  obtain ⟨t1, t2, t3, t4⟩ := q0g0 p1
  obtain ⟨a1, a2, a3, a4, a5, a6⟩ := q15l hi
  have h1 := q0ny t2 (by omega) hm a2 a3 a4
  have h2 := hm _ _ a2 a3 a4
  have e : (q10l pl s t).getD i [] = partsOf g (q10l pl s t) pl (setN g pl i) (setC g pl i) := by rw [partsOf, a6]
  rw [a6] at h1
  rw [e, a5]
  exact ⟨h1, h2⟩
theorem q15f {g : Gm} (hg : q0fl g = true) {s t : List (List Int)} (hs : q0nw g s 0) (ht : q0nw g t 1) {pl B : Int} (hpl : pl = 0 ∨ pl = 1) {R : List (List Int)} (hR : okM g pl B R) {i : Nat} (hi : i < (sets g pl).length) :
    (rowR g s t pl R i).length = q0rh g pl i /\ ∀ x ∈ rowR g s t pl R i, -(B + 30000000000000) <= x /\ x <= B + 30000000000000 := by
  obtain ⟨a1, a2, a3, a4, a5, a6⟩ := q15l hi
  obtain ⟨r, hr, hr', hl, hb⟩ := q150 hR hi
  obtain ⟨m1, m2, m3, m4⟩ := q14r hg hpl (q153 hs ht hpl).1 hi
  have h2 : (g.nd.getD (setN g pl i) nd0).p ≠ 2 := by omega
  have hC := q149 hg hs ht hpl a2 h2 a3
  have hCl := q14b g s t pl (setN g pl i) (setC g pl i)
  have hsz := (q0ri hg hpl hi).2
  unfold rowR
  rw [hr']
  refine ⟨by rw [q15u (by omega)]; exact hl, fun x hx => ?_⟩
  have hM := q14n m3 hC (cnts g s t pl (setN g pl i) (setC g pl i)).length
  have hM' : ((cnts g s t pl (setN g pl i) (setC g pl i)).length : Int) <= 4 := by omega
  obtain ⟨k, hk, rfl⟩ := List.mem_iff_getElem.1 hx
  have hkl : k < r.length := by rw [q15u (by omega)] at hk; exact hk
  have hx1 := List.getElem?_eq_getElem hkl
  have hx2 := List.getElem?_eq_getElem (show k < (cnts g s t pl (setN g pl i) (setC g pl i)).length by omega)
  have h3 := q15t (M := q14l ((q10l pl s t).getD i []) (cnts g s t pl (setN g pl i) (setC g pl i))) hx1 hx2
  rw [List.getElem?_eq_getElem hk, Option.some.injEq] at h3
  rw [h3]
  have h4 := hb _ (List.getElem_mem hkl)
  have h5 := hC _ (List.getElem_mem (show k < (cnts g s t pl (setN g pl i) (setC g pl i)).length by omega))
  have h6 : q14l ((q10l pl s t).getD i []) (cnts g s t pl (setN g pl i) (setC g pl i)) = q14m ((q10l pl s t).getD i []) (cnts g s t pl (setN g pl i) (setC g pl i)) (cnts g s t pl (setN g pl i) (setC g pl i)).length := rfl
  rw [h6]
  omega
theorem q154 {g : Gm} (hg : q0fl g = true) {S : List (List Int)} {pl : Int} (hS : q0nw g S pl) {c n : Nat} (hc : c < g.w.length) (hn : n < g.nd.length) (h2 : (g.nd.getD n nd0).p ≠ 2) : 0 <= wayP g S pl c n /\ wayP g S pl c n <= 12960000 := by
  obtain ⟨p1, p2, p3, p4, p5⟩ := q0fn hg
  obtain ⟨t1, t2, t3, t4⟩ := q0g0 p1
  obtain ⟨b1, b2⟩ := q12q t2 t3 hS hc n n (Nat.le_refl _) hn
  have := q157 (show (wayL g.nd n).length <= 4 by have := (q145 hg hn h2).1; omega)
  omega
theorem q15g {g : Gm} (hg : q0fl g = true) {s t : List (List Int)} (hs : q0nw g s 0) (ht : q0nw g t 1) {pl B : Int} (hpl : pl = 0 ∨ pl = 1) {S : List (List Int)} (hS : okM g pl B S) {i : Nat} (hi : i < (sets g pl).length) :
    (rowS g s t pl S i).length = q0rh g pl i /\ ∀ x ∈ rowS g s t pl S i, -(B + 30000000000000) <= x /\ x <= B + 30000000000000 := by
  obtain ⟨a1, a2, a3, a4, a5, a6⟩ := q15l hi
  obtain ⟨r, hr, hr', hl, hb⟩ := q150 hS hi
  obtain ⟨m1, m2, m3, m4⟩ := q14r hg hpl (q153 hs ht hpl).1 hi
  have h2 : (g.nd.getD (setN g pl i) nd0).p ≠ 2 := by omega
  have hw := q154 hg (q153 hs ht hpl).1 a3 a2 h2
  unfold rowS
  rw [hr']
  refine ⟨by rw [q15w (by omega)]; exact hl, fun x hx => ?_⟩
  obtain ⟨k, hk, rfl⟩ := List.mem_iff_getElem.1 hx
  have hkl : k < r.length := by rw [q15w (by omega)] at hk; exact hk
  have hx1 := List.getElem?_eq_getElem hkl
  have hx2 := List.getElem?_eq_getElem (show k < ((q10l pl s t).getD i []).length by omega)
  have h3 := q15v (w := wayP g (q10l pl s t) pl (setC g pl i) (setN g pl i)) hx1 hx2
  rw [List.getElem?_eq_getElem hk, Option.some.injEq] at h3
  rw [h3]
  have h4 := hb _ (List.getElem_mem hkl)
  have h5 := m3 _ (List.getElem_mem (show k < ((q10l pl s t).getD i []).length by omega))
  have h6 := Int.mul_le_mul hw.2 h5.2 h5.1 (by decide)
  have h7 := Int.mul_nonneg hw.1 h5.1
  omega
def okRS (g : Gm) (n : Nat) (x : RS) : Prop := okM g 0 (n * 30000000000000) x.r0 /\ okM g 1 (n * 30000000000000) x.r1 /\ okM g 0 (n * 30000000000000) x.s0 /\ okM g 1 (n * 30000000000000) x.s1
theorem q152 {g : Gm} (hg : q0fl g = true) {n : Nat} (hn : n <= 1000) {x : RS} (h : okRS g n x) : q0ft g 0 (stM x.r0) = true /\ q0ft g 1 (stM x.r1) = true /\ q0ft g 0 (stM x.s0) = true /\ q0ft g 1 (stM x.s1) = true :=
  ⟨q15p hg (.inl rfl) h.1 (by omega), q15p hg (.inr rfl) h.2.1 (by omega), q15p hg (.inl rfl) h.2.2.1 (by omega), q15p hg (.inr rfl) h.2.2.2 (by omega)⟩
theorem q15r {g : Gm} (hg : q0fl g = true) {n : Nat} (hn : n <= 1000) {x : RS} (h : okRS g n x) : okRS g (n + 1) (q15q g x) := by
  obtain ⟨h0, h1, _, _⟩ := q152 hg hn h
  have h0 := q0nx h0
  have h1 := q0nx h1
  have e : ((n + 1 : Nat) : Int) * 30000000000000 = (n : Int) * 30000000000000 + 30000000000000 := by omega
  unfold okRS
  rw [e]
  exact ⟨q151 fun i hi => q15f hg h0 h1 (.inl rfl) h.1 hi, q151 fun i hi => q15f hg h0 h1 (.inr rfl) h.2.1 hi, q151 fun i hi => q15g hg h0 h1 (.inl rfl) h.2.2.1 hi, q151 fun i hi => q15g hg h0 h1 (.inr rfl) h.2.2.2 hi⟩
theorem q15j {g : Gm} (hg : q0fl g = true) : ∀ n, n <= 1000 -> okRS g n (q15i g n)
  | 0, _ => by
    unfold okRS
    rw [show ((0 : Nat) : Int) * 30000000000000 = 0 from rfl]
    exact ⟨q160 g 0, q160 g 1, q160 g 0, q160 g 1⟩
  | n + 1, h => q15r hg (by omega) (q15j hg n (by omega))
end Go.Ab

/- Games as data: what the laws of runs say. -/
namespace Go.Ab

def curI (g : Gm) (k : Nat) : Int := expN g (0, stM (q15i g k).s0) (1, stM (q15i g k).s1)
def curL (g : Gm) (n : Nat) : List Int := (List.range n).map (curI g)
theorem q14d (g : Gm) (n : Nat) : (curL g n).length = n := by simp [curL]
theorem q14c {g : Gm} {n k : Nat} (h : k < n) : (curL g n)[k]? = some (curI g k) := by simp [curL, h]
theorem q14f (g : Gm) (n : Nat) : curL g (n + 1) = curL g n ++ [curI g n] := by simp [curL, List.range_succ]
def argL (l : List Int) : Nat := ixOf (minL l) l
theorem q143 {l : List Int} (h : l ≠ []) : argL l < l.length /\ l[argL l]? = some (minL l) /\ (∀ y ∈ l, minL l <= y) /\ ∀ k, k < argL l -> l[k]? ≠ some (minL l) := by
  obtain ⟨a, b⟩ := q0kb h
  have hx := q109 b
  exact ⟨(List.getElem?_eq_some_iff.1 hx).1, hx, a, fun k hk => q108 hk⟩
theorem q14j {x : Int} : ∀ {l m : List Int}, x ∈ l -> ixOf x (l ++ m) = ixOf x l
  | [], _, h => by simp at h
  | y :: l, m, h => by
    rw [List.cons_append, ixOf, ixOf]
    by_cases hy : y = x
    . rw [if_pos hy, if_pos hy]
    . rw [if_neg hy, if_neg hy, q14j ((List.mem_cons.1 h).resolve_left fun e => hy e.symm)]
theorem q14k {x : Int} : ∀ {l m : List Int}, x ∉ l -> ixOf x (l ++ m) = l.length + ixOf x m
  | [], m, _ => by simp
  | y :: l, m, h => by
    rw [List.cons_append, ixOf, if_neg (fun e => h (by simp [e])), q14k (fun hm => h (by simp [hm])), List.length_cons]; omega
theorem q142 {l : List Int} (h : l ≠ []) (x : Int) : argL (l ++ [x]) = if x < minL l then l.length else argL l := by
  obtain ⟨a, b⟩ := q0kb h
  unfold argL
  rw [q0ka h]
  split
  . rename_i hx
    have : x ∉ l := fun hm => by have := a x hm; omega
    rw [show min (minL l) x = x by omega, q14k this]
    simp [ixOf]
  . rename_i hx
    rw [show min (minL l) x = minL l by omega, q14j b]
end Go.Ab

/- Games as data: the results of runs. -/
namespace Go.Ab

def q15a (g : Gm) (pl n : Int) : Int := if q0fl g = true then (if (0 <= n /\ n <= 30) /\ (0 <= pl /\ pl <= 1) then 0 else 2) else 1
theorem q15b {g : Gm} {pl n : Int} (h : q0fl g = false) : q15a g pl n = 1 := by rw [q15a, h]; rfl
theorem q15c {g : Gm} {pl n : Int} (h : q0fl g = true) (hr : ¬ ((0 <= n /\ n <= 30) /\ (0 <= pl /\ pl <= 1))) : q15a g pl n = 2 := by rw [q15a, if_pos h, if_neg hr]
theorem q15d {g : Gm} {pl n : Int} : q15a g pl n = 0 ↔ q0fl g = true /\ (0 <= n /\ n <= 30) /\ (0 <= pl /\ pl <= 1) := by
  unfold q15a
  by_cases h : q0fl g = true
  . rw [if_pos h]
    by_cases hr : (0 <= n /\ n <= 30) /\ (0 <= pl /\ pl <= 1)
    . rw [if_pos hr]; exact ⟨fun _ => ⟨h, hr⟩, fun _ => rfl⟩
    . rw [if_neg hr]; exact ⟨fun e => by omega, fun e => absurd e.2 hr⟩
  . rw [if_neg h]; exact ⟨fun e => by omega, fun e => absurd e.1 h⟩
def crvR (g : Gm) (n : Int) : List Int × Int := if q15a g 0 n = 0 then (curL g (n.toNat + 1), 0) else ([], q15a g 0 n)
def bitR (g : Gm) (n : Int) : Int × Int := if q15a g 0 n = 0 then ((argL (curL g (n.toNat + 1)) : Int), 0) else (0, q15a g 0 n)

theorem q15k {g : Gm} (hg : q0fl g = true) {n : Nat} (hn : n <= 1000) : q0nn g (0, stM (q15i g n).r0) (1, stM (q15i g n).r1) = true /\ q0nn g (0, stM (q15i g n).s0) (1, stM (q15i g n).s1) = true := by
  obtain ⟨a, b, c, d⟩ := q152 hg hn (q15j hg n hn)
  exact ⟨q0no.2 ⟨hg, rfl, rfl, a, b⟩, q0no.2 ⟨hg, rfl, rfl, c, d⟩⟩
theorem q163 {g : Gm} (hg : q0fl g = true) {n : Nat} (hn : n <= 1000) : 0 <= curI g n /\ curI g n <= 50388480000000 := by
  have h := (q15k hg hn).2
  exact ⟨(q167 h).2.2.2.1, (q08v h).2⟩
theorem q164 {g : Gm} (hg : q0fl g = true) {n : Nat} (hn : n <= 1000) : ∀ x ∈ curL g n, 0 <= x /\ x <= 50388480000000 := by
  intro x hx
  obtain ⟨k, hk, rfl⟩ := List.mem_map.1 hx
  exact q163 hg (by have := List.mem_range.1 hk; omega)
theorem q14e (g : Gm) (n : Nat) : curL g (n + 1) ≠ [] := fun e => by
  have := congrArg List.length e
  rw [q14d] at this; simp at this
theorem q165 {g : Gm} (hg : q0fl g = true) {n : Nat} (hn : n <= 999) : argL (curL g (n + 1)) <= n /\ ∀ i x, (curL g (n + 1))[i]? = some x -> 0 <= x /\ minL (curL g (n + 1)) <= x /\ (i < argL (curL g (n + 1)) -> x ≠ minL (curL g (n + 1))) := by
  obtain ⟨a1, a2, a3, a4⟩ := q143 (q14e g n)
  rw [q14d] at a1
  refine ⟨by omega, fun i x hx => ⟨(q164 hg (by omega) x (List.mem_of_getElem? hx)).1, a3 x (List.mem_of_getElem? hx), fun hi e => a4 i hi (by rw [hx, e])⟩⟩
/-! The results are small. -/
theorem q15m {g : Gm} (hg : q0fl g = true) (pl : Int) : (sets g pl).length <= 360 := by
  obtain ⟨p1, p2, p3, p4, p5⟩ := q0fn hg
  exact q0re g pl (q0g0 p1).1.2 p2.2
theorem q162 (g : Gm) (n : Int) : (crvR g n).1.length <= 1048576 := by
  unfold crvR
  split
  . rename_i h
    obtain ⟨h1, h2, h3⟩ := q15d.1 h
    show (curL g (n.toNat + 1)).length <= _
    rw [q14d]; omega
  . simp
end Go.Ab

/- Contracts: counts of an information set; strategies of a run. -/
namespace Go.Ab
open Go.Proofs
section
attribute [-go_sem] q0i5 q0id fldC lenC idxC q0ip q0lp
theorem q06t {g : Gm} {s t : List (List Int)} {pl : Int} {n c k : Nat} {x : Int} (h : (g.nd.getD n nd0).ch[k]? = some x) : (cnts g s t pl n c).take (k + 1) = (cnts g s t pl n c).take k ++ [cntN g s t pl n c x.toNat g.w.length] := q0uj (q14a h)
theorem q0st {g : Gm} (hg : q0fl g = true) {s t : List (List Int)} (hs : q0nw g s 0) (ht : q0nw g t 1) {n c : Nat} (hn : n < g.nd.length) (h2 : (g.nd.getD n nd0).p ≠ 2) (hc : c < g.w.length) : Fun Try.prog 208 [] [.t (.agg [.sh 5 (chunk q0lu g.nd), .sh 1 (g.w.map ints), .sh 1 (g.v.map ints)]), .t (.agg [.i 0, .sh 1 (s.map ints)]), .t (.agg [.i 1, .sh 1 (t.map ints)]), .t (.i 0), .t (.i n), .t (.i c)] fun o r => o = [] /\ r = intsO (cnts g s t 0 n c) := by
  obtain ⟨p1, p2, p3, p4, p5⟩ := q0fn hg
  obtain ⟨t1, t2, t3, t4⟩ := q0g0 p1
  obtain ⟨e1, e2, e3⟩ := q145 hg hn h2
  obtain ⟨x, hx⟩ : ∃ x, g.nd[n]? = some x := ⟨_, List.getElem?_eq_getElem hn⟩
  have hxd : g.nd.getD n nd0 = x := by rw [List.getD_eq_getElem?_getD, hx]; rfl
  have hxl := (q0ks (t2 _ _ hx)).2.2.2.2.2
  have hcl := q14b g s t 0 n c
  have hcg : ∀ k y, x.ch[k]? = some y -> (cnts g s t 0 n c).take (k + 1) = (cnts g s t 0 n c).take k ++ [cntN g s t 0 n c y.toNat g.w.length] := fun k y h => q06t (by rw [hxd]; exact h)
  rw [hxd] at hcl e3
  refine q0c7 (by simp) ?_
  simp -implicitDefEqProofs only [eR', go_sem, q059, q0kw hx, show ((0 : Int) == 1) = false from rfl, show ((1 : Int) == 1) = true from rfl, opR, Nat.reduceBEq]
  repeat (first | refine ⟨by omega, ?_⟩ | refine ⟨by rw [q0l0]; omega, ?_⟩)
  refine q006.p (q080 (q0s8 t2 (by omega) g.nd.length n (by omega) hn (by omega))) [] rfl Try.call158 ?_ ?_
  . simp -implicitDefEqProofs only [aR', go_sem]
  simp -implicitDefEqProofs only [eR', go_sem]
  rw [e2]
  refine SemC.loopR (σ := Nat) (fun k => St.of [(3, .t (.i 0)), (4, .t (.i n)), (5, .t (.i c)), (6, .own 6), (7, .own 7), (8, .own 8), (13, .own 13), (14, .own 14), (15, .t (.i (q144 g n))), (16, .own 116), (17, .t (.i k))] [(6, .box [nodes g.nd, rows g.w, rows g.v]), (7, .box [.i 0, rows s]), (8, .box [.i 1, rows t]), (13, .box [.i x.p, .i x.a, .i x.b, .i x.f, ints x.ch]), (14, .box [.i 1, rows (otOf 0 s t)]), (116, intsO ((cnts g s t 0 n c).take k))]) (fun k => k <= x.ch.length) (fun k => x.ch.length - k) 0 (Weak.o _ _ [some 6, some 7, some 8, some 13, some 14, some 38] ?_ ?_) (by omega) fun k hk R hn1 hr he => ?_
  . simp -implicitDefEqProofs only [wR', Nat.reduceBEq, Nat.reduceEqDiff, ↓reduceIte, nodes, show (q144 g n : Int) + 1 - 1 = (q144 g n : Int) by omega, wrap64 (n := (q144 g n : Int)) (by omega) (by omega)]
  . exact ⟨⟨_, rfl, .refl _⟩, rfl, ⟨_, rfl, .refl _⟩, rfl, ⟨_, rfl, .refl _⟩, rfl, ⟨_, rfl, .refl _⟩, rfl, ⟨_, rfl, .refl _⟩, rfl, ⟨_, rfl, .refl _⟩, rfl, trivial⟩
  rcases Nat.lt_or_ge k x.ch.length with h9 | h9
  . obtain ⟨y, hy⟩ : ∃ y, x.ch[k]? = some y := ⟨_, List.getElem?_eq_getElem h9⟩
    obtain ⟨y0, y1, y2⟩ := e3 y (List.mem_of_getElem? hy)
    have hlt : ((cnts g s t 0 n c).take k).length = k := by rw [List.length_take, hcl]; omega
    simp -implicitDefEqProofs only [eR', go_sem, nodes, intsO, decide_eq_true (show (k : Int) < (x.ch.length : Int) by omega)]
    refine SemC.loopR (σ := Nat) (fun o => St.of [(3, .t (.i 0)), (4, .t (.i n)), (5, .t (.i c)), (6, .own 6), (7, .own 7), (8, .own 8), (13, .own 13), (14, .own 14), (15, .t (.i (q144 g n))), (16, .own 116), (17, .t (.i k)), (18, .t (.i (cntN g s t 0 n c y.toNat o))), (19, .t (.i o))] [(6, .box [nodes g.nd, rows g.w, rows g.v]), (7, .box [.i 0, rows s]), (8, .box [.i 1, rows t]), (13, .box [.i x.p, .i x.a, .i x.b, .i x.f, ints x.ch]), (14, .box [.i 1, rows (otOf 0 s t)]), (116, intsO ((cnts g s t 0 n c).take k))]) (fun o => o <= g.w.length) (fun o => g.w.length - o) 0 (Weak.o _ _ [some 6, some 7, some 8, some 13, some 14, some 116] ?_ ?_) (by omega) fun o ho R2 hn2 hr2 he2 => ?_
    . simp -implicitDefEqProofs only [wR', Nat.reduceBEq, Nat.reduceEqDiff, ↓reduceIte, nodes, show cntN g s t 0 n c y.toNat 0 = 0 from rfl]
    . exact ⟨⟨_, rfl, .refl _⟩, rfl, ⟨_, rfl, .refl _⟩, rfl, ⟨_, rfl, .refl _⟩, rfl, ⟨_, rfl, .refl _⟩, rfl, ⟨_, rfl, .refl _⟩, rfl, ⟨_, rfl, .refl _⟩, rfl, trivial⟩
    rcases Nat.lt_or_ge o g.w.length with h8 | h8
    . obtain ⟨r, z, hr0, hz, hz0, hz9⟩ := q0cn hg hc h8
      have hrl : r.length = g.w.length := ((q0js.1 p3).2 r (List.mem_of_getElem? hr0)).1
      have hwz : wAt g 0 c o = z := by
        unfold wAt
        simp only [List.getD_eq_getElem?_getD, hr0, hz, Option.getD_some, if_pos]
      have hsu := q148 g s t 0 n c y.toNat o
      have k1 := q147 hg hs ht (.inl rfl) hn h2 hc (by rw [hxd]; exact List.mem_of_getElem? hy) (m := o) (by omega)
      have k2 := q147 hg hs ht (.inl rfl) hn h2 hc (by rw [hxd]; exact List.mem_of_getElem? hy) (m := o + 1) (by omega)
      have k3 := q146 hg hs ht (.inl rfl) hn h2 hc h8 (by rw [hxd]; exact List.mem_of_getElem? hy)
      have hot := (q153 hs ht (.inl rfl)).2
      obtain ⟨b1, b2⟩ := q12q (c := o) t2 t3 hot h8 n n (Nat.le_refl _) hn
      have hpw := q157 (p := (wayL g.nd n).length) (by omega)
      have hr1 := q158 (c := c) hg hs ht (.inl rfl) hn h8
      simp -implicitDefEqProofs only [eR', go_sem, nodes, intsO, hr0, hz, decide_eq_true (show (o : Int) < (g.w.length : Int) by omega), show ((0 : Int) == 1) = false from rfl, show ((1 : Int) == 1) = true from rfl]
      repeat (first | refine ⟨by omega, ?_⟩ | refine ⟨by rw [q0l0]; omega, ?_⟩)
      refine ⟨fun h5 => ?_, fun h5 => ?_⟩
      . repeat (first | refine ⟨by omega, ?_⟩ | refine ⟨by rw [q0l0]; omega, ?_⟩)
        have hcall := q0sy hg (.inr rfl) hot (c := o) (n := n) h8 hn
        have hval := q0ue (q0sn (s := (0, s)) (t := (1, t)) hg hs ht hc h8 g.nd.length y.toNat (q144 g n) (by omega) y1 y2 (by omega))
        rw [show ((y.toNat : Nat) : Int) = y by omega] at hval
        have hrw : 1 * z * wayP g (otOf 0 s t) 1 o n = rchW g s t 0 n c o := by rw [rchW, hwz]; rfl
        have hcf : rchW g s t 0 n c o * val g s t g.nd.length y.toNat c o (q144 g n) = cntF g s t 0 n c y.toNat o := rfl
        refine q004.pure hcall [] rfl Try.call209 (fun e R' hR => ?_) (by first | trivial | simp [T.noSh, T.noShL, rat]) (fun _ => rfl) ?_
        . simp -implicitDefEqProofs only [aR', go_sem]
        simp -implicitDefEqProofs only [eR', go_sem, nodes, hy]
        repeat (first | refine ⟨by omega, ?_⟩ | refine ⟨by rw [q0l0]; omega, ?_⟩)
        refine q004.pure hval [] rfl Try.call183 (fun e R' hR => ?_) (by first | trivial | simp [T.noSh, T.noShL, rat]) (fun _ => rfl) ?_
        . simp -implicitDefEqProofs only [aR', go_sem]
        simp -implicitDefEqProofs only [eR', go_sem]
        refine hn2 _ (o + 1) (Weak.o _ _ [some 6, some 7, some 8, some 13, some 14, some 116] ?_ ?_) (by omega) (by omega)
        . simp -implicitDefEqProofs only [wR', Nat.reduceBEq, Nat.reduceEqDiff, ↓reduceIte, nodes, q0lb h8 (by omega), wrap64 (n := 1 * z) (by omega) (by omega), hrw, wrap64 (n := rchW g s t 0 n c o) (by omega) (by omega), hcf, wrap64 (n := cntF g s t 0 n c y.toNat o) (by omega) (by omega), ← hsu, wrap64 (n := cntN g s t 0 n c y.toNat (o + 1)) (by omega) (by omega)]
        . exact ⟨⟨_, rfl, .refl _⟩, rfl, ⟨_, rfl, .refl _⟩, rfl, ⟨_, rfl, .refl _⟩, rfl, ⟨_, rfl, .refl _⟩, rfl, ⟨_, rfl, .refl _⟩, rfl, ⟨_, rfl, .refl _⟩, rfl, trivial⟩
      . have hz0 : z = 0 := by have : ¬ z > 0 := by simpa using h5
                               omega
        have h0 : cntF g s t 0 n c y.toNat o = 0 := by rw [cntF, q159 (by rw [hwz]; exact hz0), Int.zero_mul]
        rw [h0, Int.add_zero] at hsu
        refine hn2 _ (o + 1) (Weak.o _ _ [some 6, some 7, some 8, some 13, some 14, some 116] ?_ ?_) (by omega) (by omega)
        . simp -implicitDefEqProofs only [wR', Nat.reduceBEq, Nat.reduceEqDiff, ↓reduceIte, nodes, q0lb h8 (by omega), hsu]
        . exact ⟨⟨_, rfl, .refl _⟩, rfl, ⟨_, rfl, .refl _⟩, rfl, ⟨_, rfl, .refl _⟩, rfl, ⟨_, rfl, .refl _⟩, rfl, ⟨_, rfl, .refl _⟩, rfl, ⟨_, rfl, .refl _⟩, rfl, trivial⟩
    . simp -implicitDefEqProofs only [eR', go_sem, nodes, intsO, decide_eq_false (show ¬ (o : Int) < (g.w.length : Int) by omega)]
      refine he2 _ _ ?_
      simp -implicitDefEqProofs only [eR', go_sem, hlt]
      repeat (first | refine ⟨by omega, ?_⟩ | refine ⟨by rw [q0l0]; omega, ?_⟩)
      refine hn1 _ (k + 1) (Weak.o _ _ [some 6, some 7, some 8, some 13, some 14, some 102] ?_ ?_) (by omega) (by omega)
      . simp -implicitDefEqProofs only [wR', Nat.reduceBEq, Nat.reduceEqDiff, ↓reduceIte, nodes, q0lb h9 (show x.ch.length <= 1000000000000 by omega)]
      . refine ⟨⟨_, rfl, .refl _⟩, rfl, ⟨_, rfl, .refl _⟩, rfl, ⟨_, rfl, .refl _⟩, rfl, ⟨_, rfl, .refl _⟩, rfl, ⟨_, rfl, .refl _⟩, rfl, ⟨_, rfl, ?_⟩, rfl, trivial⟩
        rw [hcg k y hy, show o = g.w.length by omega, intsO, List.map_append]; exact .refl _
  . simp -implicitDefEqProofs only [eR', go_sem, nodes, intsO, decide_eq_false (show ¬ (k : Int) < (x.ch.length : Int) by omega)]
    refine he _ _ ?_
    simp -implicitDefEqProofs only [eR', go_sem]
    rw [List.take_of_length_le (by omega), intsO]
theorem q0su {g : Gm} (hg : q0fl g = true) {s t : List (List Int)} (hs : q0nw g s 0) (ht : q0nw g t 1) {n c : Nat} (hn : n < g.nd.length) (h2 : (g.nd.getD n nd0).p ≠ 2) (hc : c < g.w.length) : Fun Try.prog 208 [] [.t (.agg [.sh 5 (chunk q0lu g.nd), .sh 1 (g.w.map ints), .sh 1 (g.v.map ints)]), .t (.agg [.i 0, .sh 1 (s.map ints)]), .t (.agg [.i 1, .sh 1 (t.map ints)]), .t (.i 1), .t (.i n), .t (.i c)] fun o r => o = [] /\ r = intsO (cnts g s t 1 n c) := by
  obtain ⟨p1, p2, p3, p4, p5⟩ := q0fn hg
  obtain ⟨t1, t2, t3, t4⟩ := q0g0 p1
  obtain ⟨e1, e2, e3⟩ := q145 hg hn h2
  obtain ⟨x, hx⟩ : ∃ x, g.nd[n]? = some x := ⟨_, List.getElem?_eq_getElem hn⟩
  have hxd : g.nd.getD n nd0 = x := by rw [List.getD_eq_getElem?_getD, hx]; rfl
  have hxl := (q0ks (t2 _ _ hx)).2.2.2.2.2
  have hcl := q14b g s t 1 n c
  have hcg : ∀ k y, x.ch[k]? = some y -> (cnts g s t 1 n c).take (k + 1) = (cnts g s t 1 n c).take k ++ [cntN g s t 1 n c y.toNat g.w.length] := fun k y h => q06t (by rw [hxd]; exact h)
  rw [hxd] at hcl e3
  refine q0c7 (by simp) ?_
  simp -implicitDefEqProofs only [eR', go_sem, q059, q0kw hx, show ((0 : Int) == 1) = false from rfl, show ((1 : Int) == 1) = true from rfl, opR, Nat.reduceBEq]
  repeat (first | refine ⟨by omega, ?_⟩ | refine ⟨by rw [q0l0]; omega, ?_⟩)
  refine q006.p (q080 (q0s8 t2 (by omega) g.nd.length n (by omega) hn (by omega))) [] rfl Try.call158 ?_ ?_
  . simp -implicitDefEqProofs only [aR', go_sem]
  simp -implicitDefEqProofs only [eR', go_sem]
  rw [e2]
  refine SemC.loopR (σ := Nat) (fun k => St.of [(3, .t (.i 1)), (4, .t (.i n)), (5, .t (.i c)), (6, .own 6), (7, .own 7), (8, .own 8), (13, .own 13), (14, .own 14), (15, .t (.i (q144 g n))), (16, .own 116), (17, .t (.i k))] [(6, .box [nodes g.nd, rows g.w, rows g.v]), (7, .box [.i 0, rows s]), (8, .box [.i 1, rows t]), (13, .box [.i x.p, .i x.a, .i x.b, .i x.f, ints x.ch]), (14, .box [.i 0, rows (otOf 1 s t)]), (116, intsO ((cnts g s t 1 n c).take k))]) (fun k => k <= x.ch.length) (fun k => x.ch.length - k) 0 (Weak.o _ _ [some 6, some 7, some 8, some 13, some 14, some 38] ?_ ?_) (by omega) fun k hk R hn1 hr he => ?_
  . simp -implicitDefEqProofs only [wR', Nat.reduceBEq, Nat.reduceEqDiff, ↓reduceIte, nodes, show (q144 g n : Int) + 1 - 1 = (q144 g n : Int) by omega, wrap64 (n := (q144 g n : Int)) (by omega) (by omega)]
  . exact ⟨⟨_, rfl, .refl _⟩, rfl, ⟨_, rfl, .refl _⟩, rfl, ⟨_, rfl, .refl _⟩, rfl, ⟨_, rfl, .refl _⟩, rfl, ⟨_, rfl, .refl _⟩, rfl, ⟨_, rfl, .refl _⟩, rfl, trivial⟩
  rcases Nat.lt_or_ge k x.ch.length with h9 | h9
  . obtain ⟨y, hy⟩ : ∃ y, x.ch[k]? = some y := ⟨_, List.getElem?_eq_getElem h9⟩
    obtain ⟨y0, y1, y2⟩ := e3 y (List.mem_of_getElem? hy)
    have hlt : ((cnts g s t 1 n c).take k).length = k := by rw [List.length_take, hcl]; omega
    simp -implicitDefEqProofs only [eR', go_sem, nodes, intsO, decide_eq_true (show (k : Int) < (x.ch.length : Int) by omega)]
    refine SemC.loopR (σ := Nat) (fun o => St.of [(3, .t (.i 1)), (4, .t (.i n)), (5, .t (.i c)), (6, .own 6), (7, .own 7), (8, .own 8), (13, .own 13), (14, .own 14), (15, .t (.i (q144 g n))), (16, .own 116), (17, .t (.i k)), (18, .t (.i (cntN g s t 1 n c y.toNat o))), (19, .t (.i o))] [(6, .box [nodes g.nd, rows g.w, rows g.v]), (7, .box [.i 0, rows s]), (8, .box [.i 1, rows t]), (13, .box [.i x.p, .i x.a, .i x.b, .i x.f, ints x.ch]), (14, .box [.i 0, rows (otOf 1 s t)]), (116, intsO ((cnts g s t 1 n c).take k))]) (fun o => o <= g.w.length) (fun o => g.w.length - o) 0 (Weak.o _ _ [some 6, some 7, some 8, some 13, some 14, some 116] ?_ ?_) (by omega) fun o ho R2 hn2 hr2 he2 => ?_
    . simp -implicitDefEqProofs only [wR', Nat.reduceBEq, Nat.reduceEqDiff, ↓reduceIte, nodes, show cntN g s t 1 n c y.toNat 0 = 0 from rfl]
    . exact ⟨⟨_, rfl, .refl _⟩, rfl, ⟨_, rfl, .refl _⟩, rfl, ⟨_, rfl, .refl _⟩, rfl, ⟨_, rfl, .refl _⟩, rfl, ⟨_, rfl, .refl _⟩, rfl, ⟨_, rfl, .refl _⟩, rfl, trivial⟩
    rcases Nat.lt_or_ge o g.w.length with h8 | h8
    . obtain ⟨r, z, hr0, hz, hz0, hz9⟩ := q0cn hg h8 hc
      have hrl : r.length = g.w.length := ((q0js.1 p3).2 r (List.mem_of_getElem? hr0)).1
      have hwz : wAt g 1 c o = z := by
        unfold wAt
        simp only [List.getD_eq_getElem?_getD, hr0, hz, Option.getD_some, show ((1 : Int) = 0) = False by simp, if_false]
      have hsu := q148 g s t 1 n c y.toNat o
      have k1 := q147 hg hs ht (.inr rfl) hn h2 hc (by rw [hxd]; exact List.mem_of_getElem? hy) (m := o) (by omega)
      have k2 := q147 hg hs ht (.inr rfl) hn h2 hc (by rw [hxd]; exact List.mem_of_getElem? hy) (m := o + 1) (by omega)
      have k3 := q146 hg hs ht (.inr rfl) hn h2 hc h8 (by rw [hxd]; exact List.mem_of_getElem? hy)
      have hot := (q153 hs ht (.inr rfl)).2
      obtain ⟨b1, b2⟩ := q12q (c := o) t2 t3 hot h8 n n (Nat.le_refl _) hn
      have hpw := q157 (p := (wayL g.nd n).length) (by omega)
      have hr1 := q158 (c := c) hg hs ht (.inr rfl) hn h8
      simp -implicitDefEqProofs only [eR', go_sem, nodes, intsO, hr0, hz, decide_eq_true (show (o : Int) < (g.w.length : Int) by omega), show ((0 : Int) == 1) = false from rfl, show ((1 : Int) == 1) = true from rfl]
      repeat (first | refine ⟨by omega, ?_⟩ | refine ⟨by rw [q0l0]; omega, ?_⟩)
      refine ⟨fun h5 => ?_, fun h5 => ?_⟩
      . repeat (first | refine ⟨by omega, ?_⟩ | refine ⟨by rw [q0l0]; omega, ?_⟩)
        have hcall := q0sy hg (.inl rfl) hot (c := o) (n := n) h8 hn
        have hval := q0ue (q0sn (s := (0, s)) (t := (1, t)) hg hs ht h8 hc g.nd.length y.toNat (q144 g n) (by omega) y1 y2 (by omega))
        rw [show ((y.toNat : Nat) : Int) = y by omega] at hval
        have hrw : (-1) * z * wayP g (otOf 1 s t) 0 o n = rchW g s t 1 n c o := by rw [rchW, hwz]; rfl
        have hcf : rchW g s t 1 n c o * val g s t g.nd.length y.toNat o c (q144 g n) = cntF g s t 1 n c y.toNat o := rfl
        refine q004.pure hcall [] rfl Try.call209 (fun e R' hR => ?_) (by first | trivial | simp [T.noSh, T.noShL, rat]) (fun _ => rfl) ?_
        . simp -implicitDefEqProofs only [aR', go_sem]
        simp -implicitDefEqProofs only [eR', go_sem, nodes, hy]
        repeat (first | refine ⟨by omega, ?_⟩ | refine ⟨by rw [q0l0]; omega, ?_⟩)
        refine q004.pure hval [] rfl Try.call183 (fun e R' hR => ?_) (by first | trivial | simp [T.noSh, T.noShL, rat]) (fun _ => rfl) ?_
        . simp -implicitDefEqProofs only [aR', go_sem]
        simp -implicitDefEqProofs only [eR', go_sem]
        refine hn2 _ (o + 1) (Weak.o _ _ [some 6, some 7, some 8, some 13, some 14, some 116] ?_ ?_) (by omega) (by omega)
        . simp -implicitDefEqProofs only [wR', Nat.reduceBEq, Nat.reduceEqDiff, ↓reduceIte, nodes, q0lb h8 (by omega), wrap64 (n := (-1) * z) (by omega) (by omega), hrw, wrap64 (n := rchW g s t 1 n c o) (by omega) (by omega), hcf, wrap64 (n := cntF g s t 1 n c y.toNat o) (by omega) (by omega), ← hsu, wrap64 (n := cntN g s t 1 n c y.toNat (o + 1)) (by omega) (by omega)]
        . exact ⟨⟨_, rfl, .refl _⟩, rfl, ⟨_, rfl, .refl _⟩, rfl, ⟨_, rfl, .refl _⟩, rfl, ⟨_, rfl, .refl _⟩, rfl, ⟨_, rfl, .refl _⟩, rfl, ⟨_, rfl, .refl _⟩, rfl, trivial⟩
      . have hz0 : z = 0 := by have : ¬ z > 0 := by simpa using h5
                               omega
        have h0 : cntF g s t 1 n c y.toNat o = 0 := by rw [cntF, q159 (by rw [hwz]; exact hz0), Int.zero_mul]
        rw [h0, Int.add_zero] at hsu
        refine hn2 _ (o + 1) (Weak.o _ _ [some 6, some 7, some 8, some 13, some 14, some 116] ?_ ?_) (by omega) (by omega)
        . simp -implicitDefEqProofs only [wR', Nat.reduceBEq, Nat.reduceEqDiff, ↓reduceIte, nodes, q0lb h8 (by omega), hsu]
        . exact ⟨⟨_, rfl, .refl _⟩, rfl, ⟨_, rfl, .refl _⟩, rfl, ⟨_, rfl, .refl _⟩, rfl, ⟨_, rfl, .refl _⟩, rfl, ⟨_, rfl, .refl _⟩, rfl, ⟨_, rfl, .refl _⟩, rfl, trivial⟩
    . simp -implicitDefEqProofs only [eR', go_sem, nodes, intsO, decide_eq_false (show ¬ (o : Int) < (g.w.length : Int) by omega)]
      refine he2 _ _ ?_
      simp -implicitDefEqProofs only [eR', go_sem, hlt]
      repeat (first | refine ⟨by omega, ?_⟩ | refine ⟨by rw [q0l0]; omega, ?_⟩)
      refine hn1 _ (k + 1) (Weak.o _ _ [some 6, some 7, some 8, some 13, some 14, some 102] ?_ ?_) (by omega) (by omega)
      . simp -implicitDefEqProofs only [wR', Nat.reduceBEq, Nat.reduceEqDiff, ↓reduceIte, nodes, q0lb h9 (show x.ch.length <= 1000000000000 by omega)]
      . refine ⟨⟨_, rfl, .refl _⟩, rfl, ⟨_, rfl, .refl _⟩, rfl, ⟨_, rfl, .refl _⟩, rfl, ⟨_, rfl, .refl _⟩, rfl, ⟨_, rfl, .refl _⟩, rfl, ⟨_, rfl, ?_⟩, rfl, trivial⟩
        rw [hcg k y hy, show o = g.w.length by omega, intsO, List.map_append]; exact .refl _
  . simp -implicitDefEqProofs only [eR', go_sem, nodes, intsO, decide_eq_false (show ¬ (k : Int) < (x.ch.length : Int) by omega)]
    refine he _ _ ?_
    simp -implicitDefEqProofs only [eR', go_sem]
    rw [List.take_of_length_le (by omega), intsO]
end

def q05a : CC :=
 (.seq (.reg [.o (.box 2 (sl 0)),.o (.move 4 (cv (.slice none 0 0)))])
 ((.seq (.reg [ln 10 3 2,.o (.call (some 11) (cf 168) [(sl 10)]),mv 5 11])
 ((.seq (.reg [.o (.bslice 12 1 0 []),mv 6 12])
 ((.seq (.seq (.reg [.o (.move 7 (ci 0))])
 ((.block 0 (.loop (.seq (.seq (.reg [mv 13 7,mv 14 1,.o (.bin 15 .leq (sl 13) (sl 14))])
 ((.cond (sl 15) .skip
 (.exit 0))))
 ((.seq (.block 1 (.seq (.seq (.reg [mv 18 7,.o (.bin 19 .gtr (sl 18) (ci 0))])
 ((.cond (sl 19) (.reg [mv 20 5,.o (.call (some 21) (cf 169) [(sl 20)])])
 .skip)))
 ((.seq (.weak (.draw [30, 37] [kr (ln 23 3 2),kr (mv 24 5),kr (.o (.nilc 25 (sl 24))),kr (fl 26 4 25),kr (l1 27 26),kr (.o (.idx 28 1 (sl 27) (ci 0))),kr (l1 29 28),(.c false [], .o (.call (some 30) (cf 111) [(ci 0), (sl 29)])),(.r false [30], mv 31 5),(.r false [30], .o (.nilc 32 (sl 31))),(.r false [30], fl 33 4 32),(.r false [30], l1 34 33),(.r false [30], .o (.idx 35 1 (sl 34) (ci 1))),(.r false [30], l1 36 35),(.c false [], .o (.call (some 37) (cf 111) [(ci 1), (sl 36)])),kr (.o (.call (some 38) (cf 124) [(sl 23), (sl 30), (sl 37)])),kr (mv 22 38),kr (.o (.extract 39 (sl 22) 0)),kr (.o (.extract 40 (sl 22) 1)),kr (mv 8 39),kr (mv 9 40)]))
 ((.reg [mv 41 6,mv 42 8,mv 43 9,.o (.bin 44 .add (sl 42) (sl 43)),.o (.bslice 45 1 1 [(0, (sl 44))]),.o (.app 46 1 8 (sl 41) (sl 45)),mv 6 46]))))))
 ((.reg [mv 16 7,.o (.bin 17 .add (sl 16) (ci 1)),mv 7 17])))))))))
 ((.seq (.reg [mv 47 6,mv 4 47])
 (.ret))))))))))
theorem q0c8 {rin args Q} (ha : args.length <= 48) (h : fW 48 q05a [.tmp 4] rin args Q) : Fun Try.prog 114 rin args Q :=
 Fun.of (H := ⟨[], [8]⟩) Try.func114 rfl rfl rfl (by kernel_rfl) ha (by decide) h

def q05e : CC :=
 (.seq (.weak (.draw [19, 26, 2, 3] [kr (mv 13 0),kr (.o (.nilc 14 (sl 13))),kr (fl 15 3 14),kr (l1 16 15),kr (.o (.idx 17 1 (sl 16) (ci 0))),kr (l1 18 17),(.c false [], .o (.call (some 19) (cf 111) [(ci 0), (sl 18)])),(.r false [19], mv 20 0),(.r false [19], .o (.nilc 21 (sl 20))),(.r false [19], fl 22 3 21),(.r false [19], l1 23 22),(.r false [19], .o (.idx 24 1 (sl 23) (ci 1))),(.r false [19], l1 25 24),(.c false [], .o (.call (some 26) (cf 111) [(ci 1), (sl 25)])),(kN, .o (.alloc 2 [.v (.int .i64 0), .v (.slice none 0 0)])),(kN, .o (.alloc 3 [.v (.int .i64 0), .v (.slice none 0 0)])),(kH, .o (.store 2 (sl 2) (sl 19))),(kH, .o (.store 2 (sl 3) (sl 26)))]))
 ((.seq (.weak (.reg [.o (.move 4 (ci 0))]))
 ((.block 0 (.loop (.seq (.seq (.reg [mv 27 4,.o (.bin 28 .lss (sl 27) (ci 2))])
 ((.cond (sl 28) .skip
 (.exit 0))))
 ((.seq (.block 1 (.seq (.reg [ln 31 2 2,.o (.alloc 5 [.v (.int .i64 0), .v (.slice none 0 0)]),.o (.store 2 (sl 5) (sl 31))])
 ((.seq (.seq (.reg [mv 32 4,.o (.bin 33 .eql (sl 32) (ci 1))])
 ((.cond (sl 33) (.reg [ln 34 2 3,.o (.store 2 (sl 5) (sl 34))])
 .skip)))
 ((.seq (.reg [mv 35 0,.o (.nilc 36 (sl 35)),fl 37 0 36,ln 38 3 37,mv 39 4,.o (.call (some 40) (cf 186) [(sl 38), (sl 39)]),mv 6 40])
 ((.seq (.reg [.o (.move 7 (ci 0))])
 ((.block 2 (.loop (.seq (.seq (.reg [mv 41 7,mv 42 6,.o (.lenS 43 (sl 42)),.o (.bin 44 .lss (sl 41) (sl 43))])
 ((.cond (sl 44) .skip
 (.exit 2))))
 ((.seq (.block 3 (.seq (.draw [66] [kr (mv 47 0),kr (.o (.nilc 48 (sl 47))),kr (fl 49 0 48),kr (ln 50 3 49),kr (ln 51 2 2),kr (ln 52 2 3),kr (mv 53 4),kr (mv 54 6),kr (mv 55 7),kr (ix 56 54 55),kr (l1 57 56),kr (.o (.idx 58 1 (sl 57) (ci 0))),kr (l1 59 58),kr (mv 60 6),kr (mv 61 7),kr (ix 62 60 61),kr (l1 63 62),kr (.o (.idx 64 1 (sl 63) (ci 1))),kr (l1 65 64),(.c false [], .o (.call (some 66) (cf 208) [(sl 50), (sl 51), (sl 52), (sl 53), (sl 59), (sl 65)])),kr (mv 8 66)])
 ((.seq (.reg [.o (.move 9 (ci 0))])
 ((.seq (.seq (.reg [.o (.move 10 (ci 0))])
 ((.block 4 (.loop (.seq (.seq (.reg [mv 67 10,mv 68 8,.o (.lenS 69 (sl 68)),.o (.bin 70 .lss (sl 67) (sl 69))])
 ((.cond (sl 70) .skip
 (.exit 4))))
 ((.seq (.block 5 (.draw [] [kr (mv 73 9),kr (fl 74 1 5),kr (l1 75 74),kr (mv 76 7),kr (ix 77 75 76),kr (l1 78 77),kr (mv 79 10),kr (ix 80 78 79),kr (l1 81 80),kr (mv 82 8),kr (mv 83 10),kr (ix 84 82 83),kr (l1 85 84),kr (.o (.bin 86 .mul (sl 81) (sl 85))),kr (.o (.bin 87 .add (sl 73) (sl 86))),kr (mv 9 87)]))
 ((.reg [mv 71 10,.o (.bin 72 .add (sl 71) (ci 1)),mv 10 72])))))))))
 ((.seq (.draw [] [kr (mv 88 0),kr (.o (.nilc 89 (sl 88))),kr (fl 90 0 89),kr (ln 91 3 90),kr (ln 92 2 5),kr (mv 93 6),kr (mv 94 7),kr (ix 95 93 94),kr (l1 96 95),kr (.o (.idx 97 1 (sl 96) (ci 0))),kr (l1 98 97),kr (mv 99 6),kr (mv 100 7),kr (ix 101 99 100),kr (l1 102 101),kr (.o (.idx 103 1 (sl 102) (ci 1))),kr (l1 104 103),kr (.o (.call (some 105) (cf 209) [(sl 91), (sl 92), (sl 98), (sl 104)])),kr (mv 11 105)])
 ((.seq (.reg [.o (.move 12 (ci 0))])
 ((.block 6 (.loop (.seq (.seq (.reg [mv 106 12,mv 107 8,.o (.lenS 108 (sl 107)),.o (.bin 109 .lss (sl 106) (sl 108))])
 ((.cond (sl 109) .skip
 (.exit 6))))
 ((.seq (.block 7 (.seq (.weak (.draw [] [kr (mv 112 0),kr (.o (.nilc 113 (sl 112))),kr (fl 114 3 113),kr (l1 115 114),kr (mv 116 4),kr (ix 117 115 116),kr (l1 118 117),kr (mv 119 7),kr (ix 120 118 119),kr (l1 121 120),kr (mv 122 12),kr (mv 123 0),kr (.o (.nilc 124 (sl 123))),kr (fl 125 3 124),kr (l1 126 125),kr (mv 127 4),kr (ix 128 126 127),kr (l1 129 128),kr (mv 130 7),kr (ix 131 129 130),kr (l1 132 131),kr (mv 133 12),kr (ix 134 132 133),kr (l1 135 134),kr (mv 136 8),kr (mv 137 12),kr (ix 138 136 137),kr (l1 139 138),kr (.o (.bin 140 .mul (ci 60) (sl 139))),kr (.o (.bin 141 .add (sl 135) (sl 140))),kr (mv 142 9),kr (.o (.bin 143 .sub (sl 141) (sl 142))),kr (ix 144 121 122),(kH, .o (.store 1 (sl 144) (sl 143)))]))
 ((.weak (.draw [] [kr (mv 145 0),kr (.o (.nilc 146 (sl 145))),kr (fl 147 4 146),kr (l1 148 147),kr (mv 149 4),kr (ix 150 148 149),kr (l1 151 150),kr (mv 152 7),kr (ix 153 151 152),kr (l1 154 153),kr (mv 155 12),kr (mv 156 0),kr (.o (.nilc 157 (sl 156))),kr (fl 158 4 157),kr (l1 159 158),kr (mv 160 4),kr (ix 161 159 160),kr (l1 162 161),kr (mv 163 7),kr (ix 164 162 163),kr (l1 165 164),kr (mv 166 12),kr (ix 167 165 166),kr (l1 168 167),kr (mv 169 11),kr (fl 170 1 5),kr (l1 171 170),kr (mv 172 7),kr (ix 173 171 172),kr (l1 174 173),kr (mv 175 12),kr (ix 176 174 175),kr (l1 177 176),kr (.o (.bin 178 .mul (sl 169) (sl 177))),kr (.o (.bin 179 .add (sl 168) (sl 178))),kr (ix 180 154 155),(kH, .o (.store 1 (sl 180) (sl 179)))])))))
 ((.weak (.reg [mv 110 12,.o (.bin 111 .add (sl 110) (ci 1)),mv 12 111])))))))))))))))))))
 ((.reg [mv 45 7,.o (.bin 46 .add (sl 45) (ci 1)),mv 7 46]))))))))))))))))
 ((.reg [mv 29 4,.o (.bin 30 .add (sl 29) (ci 1)),mv 4 30])))))))))))
theorem q0cc {rin args Q} (ha : args.length <= 181) (h : fW 181 q05e [] rin args Q) : Fun Try.prog 169 rin args Q :=
 Fun.of (H := ⟨[], [0, 1, 20, 21, 22]⟩) Try.func169 rfl rfl rfl (by kernel_rfl) ha (by decide) h

def q03l : CC :=
 (.seq (.reg [.o (.box 1 (sl 0)),.o (.move 2 (cv (.pointer none)))])
 ((.seq (.reg [ln 8 3 1,.o (.build 9 [.v (.slice none 0 0), .v (.slice none 0 0), .v (.slice none 0 0), .v (.slice none 0 0), .v (.slice none 0 0), .v (.slice none 0 0), .v (.slice none 0 0)] [(0, 3), (3, 2), (5, 2)] [(0, (sl 8))]),.o (.box 10 (sl 9)),mv 3 10])
 ((.seq (.seq (.reg [.o (.move 11 (ci 0))])
 ((.block 0 (.loop (.seq (.reg [.o (.bin 12 .lss (sl 11) (ci 2))])
 ((.seq (.cond (sl 12) .skip
 (.exit 0))
 ((.seq (.block 1 (.seq (.reg [mv 13 11,mv 4 13])
 ((.seq (.reg [ln 14 3 1,mv 15 4,.o (.call (some 16) (cf 152) [(sl 14), (sl 15)]),.o (.lenS 17 (sl 16)),.o (.move 18 (ci 0))])
 ((.block 2 (.loop (.seq (.reg [.o (.bin 19 .lss (sl 18) (sl 17))])
 ((.seq (.cond (sl 19) .skip
 (.exit 2))
 ((.seq (.block 3 (.seq (.reg [ix 20 16 18,l1 21 20,mv 6 21])
 ((.seq (.draw [] [kr (fl 22 0 1),kr (fl 23 0 22),kr (l1 24 23),kr (mv 25 6),kr (.o (.idx 26 1 (sl 25) (ci 0))),kr (l1 27 26),kr (.o (.idx 28 5 (sl 24) (sl 27))),kr (fl 29 4 28),kr (l1 30 29),kr (.o (.lenS 31 (sl 30))),kr (mv 7 31)])
 ((.seq (.weak (.draw [41] [(.r false [41, 42, 43, 501], mv 32 3),(.r false [41, 42, 43, 501], mv 33 4),(.r false [41, 42], mv 34 3),(.r false [41, 42], mv 35 4),(.r false [41, 42], .o (.nilc 36 (sl 34))),(.r false [41, 42], fl 37 3 36),(.r false [41, 42], .o (.idxA 38 2 1 (sl 37) (sl 35))),(.r false [41, 42], l1 39 38),(kE, mv 40 7),(kN, .o (.make 41 [.v (.int .i64 0)] 8 (sl 40) (sl 40))),(.h (some [41]) [], .o (.bslice 42 1 1 [(0, (sl 41))])),(.h (some [42, 501]) [], .o (.app 43 1 24 (sl 39) (sl 42))),(.r false [41, 42, 43, 501], .o (.nilc 44 (sl 32))),(.r false [41, 42, 43, 501], fl 45 3 44),kr (.o (.idxA 46 2 1 (sl 45) (sl 33))),(kH, .o (.store 1 (sl 46) (sl 43)))]))
 ((.weak (.draw [56] [(.r false [56, 57, 58, 502], mv 47 3),(.r false [56, 57, 58, 502], mv 48 4),(.r false [56, 57], mv 49 3),(.r false [56, 57], mv 50 4),(.r false [56, 57], .o (.nilc 51 (sl 49))),(.r false [56, 57], fl 52 5 51),(.r false [56, 57], .o (.idxA 53 2 1 (sl 52) (sl 50))),(.r false [56, 57], l1 54 53),(kE, mv 55 7),(kN, .o (.make 56 [.v (.int .i64 0)] 8 (sl 55) (sl 55))),(.h (some [56]) [], .o (.bslice 57 1 1 [(0, (sl 56))])),(.h (some [57, 502]) [], .o (.app 58 1 24 (sl 54) (sl 57))),(.r false [56, 57, 58, 502], .o (.nilc 59 (sl 47))),(.r false [56, 57, 58, 502], fl 60 5 59),kr (.o (.idxA 61 2 1 (sl 60) (sl 48))),(kH, .o (.store 1 (sl 61) (sl 58)))])))))))))
 ((.reg [.o (.bin 62 .add (sl 18) (ci 1)),mv 18 62]))))))))))))))
 ((.reg [.o (.bin 63 .add (sl 11) (ci 1)),mv 11 63])))))))))))
 ((.seq (.reg [mv 64 3,mv 2 64])
 (.ret))))))))
theorem q0aj {rin args Q} (ha : args.length <= 65) (h : fW 65 q03l [.tmp 2] rin args Q) : Fun Try.prog 170 rin args Q :=
 Fun.of (H := ⟨[(9, 0, .r false [41, 42, 43, 501]), (9, 1, .r false [41, 42, 43, 501]), (9, 12, .r false [41, 42, 43, 501]), (9, 13, .r false [41, 42, 43, 501]), (9, 2, .r false [41, 42]), (9, 3, .r false [41, 42]), (9, 4, .r false [41, 42]), (9, 5, .r false [41, 42]), (9, 6, .r false [41, 42]), (9, 7, .r false [41, 42]), (9, 10, .h (some [41]) []), (9, 11, .h (some [42, 501]) []), (10, 0, .r false [56, 57, 58, 502]), (10, 1, .r false [56, 57, 58, 502]), (10, 12, .r false [56, 57, 58, 502]), (10, 13, .r false [56, 57, 58, 502]), (10, 2, .r false [56, 57]), (10, 3, .r false [56, 57]), (10, 4, .r false [56, 57]), (10, 5, .r false [56, 57]), (10, 6, .r false [56, 57]), (10, 7, .r false [56, 57]), (10, 10, .h (some [56]) []), (10, 11, .h (some [57, 502]) [])], [9, 10]⟩) Try.func170 rfl rfl rfl (by kernel_rfl) ha (by decide) h

def q037 : CC :=
 (.seq (.reg [mv 9 0,.o (.call (some 10) (cf 112) [(sl 9)]),mv 8 10,.o (.extract 11 (sl 8) 0),.o (.extract 12 (sl 8) 1),.o (.alloc 2 [.v (.int .i64 0), .v (.slice none 0 0)]),.o (.alloc 3 [.v (.int .i64 0), .v (.slice none 0 0)]),.o (.store 2 (sl 2) (sl 11)),.o (.store 2 (sl 3) (sl 12))])
 ((.seq (.weak (.draw [19] [kr (mv 13 0),kr (.o (.nilc 14 (sl 13))),kr (fl 15 0 14),kr (ln 16 3 15),kr (ln 17 2 2),kr (ln 18 2 3),(.c false [], .o (.call (some 19) (cf 179) [(sl 16), (sl 17), (sl 18)])),kr (mv 4 19)]))
 ((.seq (.weak (.reg [.o (.move 20 (ci 0))]))
 ((.block 0 (.loop (.seq (.reg [.o (.bin 21 .lss (sl 20) (ci 2))])
 ((.seq (.cond (sl 21) .skip
 (.exit 0))
 ((.seq (.block 1 (.seq (.reg [mv 22 20,mv 5 22])
 ((.seq (.reg [mv 23 0,.o (.nilc 24 (sl 23)),fl 25 0 24,ln 26 3 25,mv 27 5,.o (.call (some 28) (cf 152) [(sl 26), (sl 27)]),.o (.lenS 29 (sl 28)),.o (.move 30 (ci 0))])
 ((.block 2 (.loop (.seq (.reg [.o (.bin 31 .lss (sl 30) (sl 29))])
 ((.seq (.cond (sl 31) .skip
 (.exit 2))
 ((.seq (.block 3 (.seq (.reg [mv 32 30,ix 33 28 30,l1 34 33,mv 6 32,mv 7 34])
 ((.draw [] [kr (mv 35 0),kr (mv 36 4),kr (mv 37 5),kr (mv 38 6),kr (mv 39 7),kr (.o (.idx 40 1 (sl 39) (ci 0))),kr (l1 41 40),kr (mv 42 7),kr (.o (.idx 43 1 (sl 42) (ci 1))),kr (l1 44 43),(kH, .o (.call (some 45) (cf 210) [(sl 35), (sl 36), (sl 37), (sl 38), (sl 41), (sl 44)]))]))))
 ((.reg [.o (.bin 46 .add (sl 30) (ci 1)),mv 30 46]))))))))))))))
 ((.reg [.o (.bin 47 .add (sl 20) (ci 1)),mv 20 47])))))))))))))))
theorem q0a5 {rin args Q} (ha : args.length <= 48) (h : fW 48 q037 [] rin args Q) : Fun Try.prog 171 rin args Q :=
 Fun.of (H := ⟨[], [1, 2]⟩) Try.func171 rfl rfl rfl (by kernel_rfl) ha (by decide) h

def q03q : CC :=
 (.seq (.reg [.o (.alloc 4 [.v (.int .i64 0), .v (.slice none 0 0)])])
 ((.seq (.reg [mv 11 0,.o (.build 12 [.v (.int .i64 0), .v (.slice none 0 0)] [(0, 1), (1, 1)] [(0, (sl 11))]),.o (.alloc 5 [.v (.int .i64 0), .v (.slice none 0 0)]),.o (.store 2 (sl 5) (sl 12))])
 ((.seq (.seq (.reg [mv 13 1,.o (.lenS 14 (sl 13)),.o (.move 15 (ci 0))])
 ((.block 0 (.loop (.seq (.reg [.o (.bin 16 .lss (sl 15) (sl 14))])
 ((.seq (.cond (sl 16) .skip
 (.exit 0))
 ((.seq (.block 1 (.seq (.reg [ix 17 13 15,l1 18 17,mv 7 18])
 ((.seq (.reg [mv 19 7,.o (.lenS 20 (sl 19)),.o (.make 21 [.v (.int .i64 0)] 8 (sl 20) (sl 20)),mv 8 21])
 ((.seq (.seq (.reg [mv 22 7,.o (.lenS 23 (sl 22)),.o (.move 24 (ci 0))])
 ((.block 2 (.loop (.seq (.reg [.o (.bin 25 .lss (sl 24) (sl 23))])
 ((.seq (.cond (sl 25) .skip
 (.exit 2))
 ((.seq (.block 3 (.seq (.reg [mv 26 24,ix 27 22 24,l1 28 27,mv 9 26,mv 10 28])
 ((.reg [mv 29 8,mv 30 9,mv 31 10,.o (.mm 32 true (ci 0) (sl 31)),ix 33 29 30,.o (.store 1 (sl 33) (sl 32))]))))
 ((.reg [.o (.bin 34 .add (sl 24) (ci 1)),mv 24 34])))))))))))
 ((.weak (.draw [38, 39] [(.r false [38, 39, 40], fl 35 1 5),(.r false [38, 39, 40], l1 36 35),(kE, mv 37 8),(.c false [], .o (.call (some 38) (cf 211) [(sl 37)])),(.c false [], .o (.call (some 39) (cf 193) [(sl 38)])),(.h (some [39]) [], .o (.bslice 40 1 1 [(0, (sl 39))])),(kH, .o (.app 41 1 24 (sl 36) (sl 40))),kr (fl 42 1 5),(kH, .o (.store 1 (sl 42) (sl 41)))])))))))))
 ((.reg [.o (.bin 43 .add (sl 15) (ci 1)),mv 15 43])))))))))))
 ((.seq (.reg [ln 44 2 5,.o (.store 2 (sl 4) (sl 44))])
 (.ret))))))))
theorem q0ao {rin args Q} (ha : args.length <= 45) (h : fW 45 q03q [.cell 4 47] rin args Q) : Fun Try.prog 174 rin args Q :=
 Fun.of (H := ⟨[(11, 0, .r false [38, 39, 40]), (11, 1, .r false [38, 39, 40]), (11, 5, .h (some [39]) [])], [11]⟩) Try.func174 rfl rfl rfl (by kernel_rfl) ha (by decide) h

def q038 : CC :=
 (.seq (.reg [mv 31 0,.o (.nilc 32 (sl 31)),fl 33 0 32,fl 34 0 33,fl 35 0 34,l1 36 35,mv 37 4,.o (.idx 38 5 (sl 36) (sl 37)),fl 39 4 38,l1 40 39,mv 12 40])
 ((.seq (.reg [.o (.move 13 (ci 0))])
 ((.seq (.seq (.reg [mv 41 12,.o (.lenS 42 (sl 41)),.o (.move 43 (ci 0))])
 ((.block 0 (.loop (.seq (.reg [.o (.bin 44 .lss (sl 43) (sl 42))])
 ((.seq (.cond (sl 44) .skip
 (.exit 0))
 ((.seq (.block 1 (.seq (.reg [ix 45 41 43,l1 46 45,mv 15 46])
 ((.reg [mv 47 13,mv 48 0,.o (.nilc 49 (sl 48)),fl 50 0 49,fl 51 0 50,ln 52 1 51,mv 53 15,.o (.call (some 54) (cf 164) [(sl 52), (sl 53)]),.o (.mm 55 true (sl 47) (sl 54)),mv 13 55]))))
 ((.reg [.o (.bin 56 .add (sl 43) (ci 1)),mv 43 56])))))))))))
 ((.seq (.reg [mv 57 12,.o (.lenS 58 (sl 57)),.o (.make 59 [.v (.int .i64 0)] 8 (sl 58) (sl 58)),mv 16 59])
 ((.seq (.seq (.reg [mv 60 0,.o (.nilc 61 (sl 60)),fl 62 0 61,fl 63 1 62,l1 64 63,.o (.lenS 65 (sl 64)),.o (.move 66 (ci 0))])
 ((.block 2 (.loop (.seq (.reg [.o (.bin 67 .lss (sl 66) (sl 65))])
 ((.seq (.cond (sl 67) .skip
 (.exit 2))
 ((.seq (.block 3 (.seq (.reg [mv 68 66,mv 17 68])
 ((.seq (.reg [mv 69 5,mv 70 17,mv 18 69,mv 19 70,.o (.move 20 (ci 1))])
 ((.seq (.seq (.reg [mv 71 2,.o (.bin 72 .eql (sl 71) (ci 1))])
 ((.cond (sl 72) (.reg [mv 73 17,mv 74 5,mv 18 73,mv 19 74,.o (.move 20 (ci (-1)))])
 .skip)))
 ((.seq (.draw [] [(kE, mv 75 20),(.r false [94], mv 76 0),(.r false [94], .o (.nilc 77 (sl 76))),(.r false [94], fl 78 0 77),(.r false [94], fl 79 1 78),(.r false [94], l1 80 79),(.r false [94], mv 81 18),(.r false [94], ix 82 80 81),(.r false [94], l1 83 82),(.r false [94], mv 84 19),(.r false [94], ix 85 83 84),(.r false [94], l1 86 85),(kE, .o (.bin 87 .mul (sl 75) (sl 86))),kr (mv 88 1),kr (mv 89 4),kr (mv 90 2),kr (.o (.bin 91 .sub (ci 1) (sl 90))),kr (mv 92 18),kr (mv 93 19),(.h (some []) [], .o (.call (some 94) (cf 226) [(sl 88), (sl 89), (sl 91), (sl 92), (sl 93)])),kr (.o (.bin 95 .mul (sl 87) (sl 94))),kr (mv 21 95)])
 ((.seq (.seq (.reg [mv 96 21,.o (.bin 97 .eql (sl 96) (ci 0))])
 ((.cond (sl 97) (.exit 3)
 .skip)))
 ((.seq (.reg [mv 98 12,.o (.lenS 99 (sl 98)),.o (.move 100 (ci 0))])
 ((.block 4 (.loop (.seq (.reg [.o (.bin 101 .lss (sl 100) (sl 99))])
 ((.seq (.cond (sl 101) .skip
 (.exit 4))
 ((.seq (.block 5 (.seq (.reg [mv 102 100,ix 103 98 100,l1 104 103,mv 22 102,mv 23 104])
 ((.draw [] [(.r false [115], mv 105 16),(.r false [115], mv 106 22),(.r false [115], ix 107 105 106),(.r false [115], l1 108 107),(.r false [115], mv 109 21),kr (mv 110 1),kr (mv 111 23),kr (mv 112 18),kr (mv 113 19),kr (mv 114 13),(.h (some []) [], .o (.call (some 115) (cf 180) [(sl 110), (sl 111), (sl 112), (sl 113), (sl 114)])),kr (.o (.bin 116 .mul (sl 109) (sl 115))),kr (.o (.bin 117 .add (sl 108) (sl 116))),kr (ix 118 105 106),(kH, .o (.store 1 (sl 118) (sl 117)))]))))
 ((.reg [.o (.bin 119 .add (sl 100) (ci 1)),mv 100 119]))))))))))))))))))))))
 ((.reg [.o (.bin 120 .add (sl 66) (ci 1)),mv 66 120])))))))))))
 ((.seq (.reg [mv 121 1,mv 122 2,.o (.nilc 123 (sl 121)),fl 124 5 123,.o (.idxA 125 2 1 (sl 124) (sl 122)),l1 126 125,mv 127 3,ix 128 126 127,l1 129 128,mv 24 129])
 ((.seq (.reg [.o (.move 25 (ci 0))])
 ((.seq (.seq (.reg [mv 130 24,.o (.lenS 131 (sl 130)),.o (.move 132 (ci 0))])
 ((.block 6 (.loop (.seq (.reg [.o (.bin 133 .lss (sl 132) (sl 131))])
 ((.seq (.cond (sl 133) .skip
 (.exit 6))
 ((.seq (.block 7 (.seq (.reg [mv 134 132,ix 135 130 132,l1 136 135,mv 26 134,mv 27 136])
 ((.reg [mv 137 25,mv 138 27,mv 139 16,mv 140 26,ix 141 139 140,l1 142 141,.o (.bin 143 .mul (sl 138) (sl 142)),.o (.bin 144 .add (sl 137) (sl 143)),mv 25 144]))))
 ((.reg [.o (.bin 145 .add (sl 132) (ci 1)),mv 132 145])))))))))))
 ((.seq (.reg [mv 146 1,mv 147 4,mv 148 2,mv 149 5,mv 150 5,.o (.call (some 151) (cf 226) [(sl 146), (sl 147), (sl 148), (sl 149), (sl 150)]),mv 28 151])
 ((.seq (.reg [mv 152 24,.o (.lenS 153 (sl 152)),.o (.move 154 (ci 0))])
 ((.block 8 (.loop (.seq (.reg [.o (.bin 155 .lss (sl 154) (sl 153))])
 ((.seq (.cond (sl 155) .skip
 (.exit 8))
 ((.seq (.block 9 (.seq (.reg [mv 156 154,ix 157 152 154,l1 158 157,mv 29 156,mv 30 158])
 ((.seq (.weak (.draw [] [kr (mv 159 0),kr (mv 160 2),kr (.o (.nilc 161 (sl 159))),kr (fl 162 3 161),kr (.o (.idxA 163 2 1 (sl 162) (sl 160))),kr (l1 164 163),kr (mv 165 3),kr (ix 166 164 165),kr (l1 167 166),kr (mv 168 29),kr (ix 169 167 168),kr (l1 170 169),kr (mv 171 16),kr (mv 172 29),kr (ix 173 171 172),kr (l1 174 173),kr (.o (.bin 175 .mul (ci 60) (sl 174))),kr (mv 176 25),kr (.o (.bin 177 .sub (sl 175) (sl 176))),kr (.o (.bin 178 .add (sl 170) (sl 177))),kr (ix 179 167 168),(kH, .o (.store 1 (sl 179) (sl 178)))]))
 ((.weak (.reg [mv 180 0,mv 181 2,.o (.nilc 182 (sl 180)),fl 183 5 182,.o (.idxA 184 2 1 (sl 183) (sl 181)),l1 185 184,mv 186 3,ix 187 185 186,l1 188 187,mv 189 29,ix 190 188 189,l1 191 190,mv 192 30,mv 193 28,.o (.bin 194 .mul (sl 192) (sl 193)),.o (.bin 195 .add (sl 191) (sl 194)),ix 196 188 189,.o (.store 1 (sl 196) (sl 195))])))))))
 ((.reg [.o (.bin 197 .add (sl 154) (ci 1)),mv 154 197])))))))))))))))))))))))))))))
theorem q0a6 {rin args Q} (ha : args.length <= 198) (h : fW 198 q038 [] rin args Q) : Fun Try.prog 210 rin args Q :=
 Fun.of (H := ⟨[(14, 1, .r false [94]), (14, 2, .r false [94]), (14, 3, .r false [94]), (14, 4, .r false [94]), (14, 5, .r false [94]), (14, 6, .r false [94]), (14, 7, .r false [94]), (14, 8, .r false [94]), (14, 9, .r false [94]), (14, 10, .r false [94]), (14, 11, .r false [94]), (14, 19, .h (some []) []), (19, 0, .r false [115]), (19, 1, .r false [115]), (19, 2, .r false [115]), (19, 3, .r false [115]), (19, 4, .r false [115]), (19, 10, .h (some []) [])], [33, 34]⟩) Try.func210 rfl rfl rfl (by kernel_rfl) ha (by decide) h

def runL (B : Int) (m : List (List Int)) : Prop := m.length <= 400 /\ ∀ r ∈ m, 1 <= r.length /\ r.length <= 4 /\ ∀ x ∈ r, -B <= x /\ x <= B
theorem q0m9 {g : Gm} (hg : q0fl g = true) {pl B : Int} (hpl : pl = 0 ∨ pl = 1) {m : List (List Int)} (h : okM g pl B m) : runL B m := by
  have hs := q15m hg pl
  refine ⟨by rw [h.1]; omega, fun r hr => ?_⟩
  obtain ⟨i, hi⟩ := List.mem_iff_getElem?.1 hr
  have hil := (List.getElem?_eq_some_iff.1 hi).1
  obtain ⟨b1, b2⟩ := q0ri hg hpl (i := i) (by rw [← h.1]; exact hil)
  obtain ⟨c1, c2⟩ := h.2 i r hi
  exact ⟨by omega, by omega, c2⟩
theorem q0tj {m : List (List Int)} {i : Nat} {r : List Int} (h : m[i]? = some r) : (stM m).take (i + 1) = (stM m).take i ++ [rowP r] := q0uj (q15n h)
theorem q0oa {r : List Int} {k : Nat} {x : Int} (h : r[k]? = some x) : (posL r).take (k + 1) = (posL r).take k ++ [max 0 x] := q0uj (by simp [posL, h])
theorem q0o9 (r : List Int) : (posL r).length = r.length := by simp [posL]
section
attribute [-go_sem] q0i5 q0id fldC lenC idxC q0ip q0lp
theorem q0t0 (pl : Int) (m : List (List Int)) {B : Int} (h : runL B m) (hB : B < 9223372036854775808) : Fun Try.prog 111 [] [.t (.i pl), .t (.sh 1 (m.map ints))] fun o r => o = [] /\ r = .agg [.i pl, .arr 1 ((stM m).map intsO)] := by
  obtain ⟨hm, hr0⟩ := h
  refine q0cd (by simp) ?_
  simp -implicitDefEqProofs only [eR', go_sem, q05f]
  refine SemC.loopR (σ := Nat) (fun i => St.of [(0, .t (.i pl)), (1, .t (rows m)), (4, .own 4), (5, .own 95), (6, .t (.i i))] [(4, .box [.i 0, .v (.slice none 0 0)]), (95, q0qa ((stM m).take i))]) (fun i => i <= m.length) (fun i => m.length - i) 0 (Weak.o _ _ [some 4, some 9] ?_ ?_) (by omega) fun i hi R hn hr he => ?_
  . simp -implicitDefEqProofs only [wR', Nat.reduceBEq, Nat.reduceEqDiff, ↓reduceIte]
  . exact ⟨⟨_, rfl, .refl _⟩, rfl, ⟨_, rfl, .refl _⟩, rfl, trivial⟩
  rcases Nat.lt_or_ge i m.length with h9 | h9
  . obtain ⟨r, hrr⟩ : ∃ r, m[i]? = some r := ⟨_, List.getElem?_eq_getElem h9⟩
    obtain ⟨r1, r2, r3⟩ := hr0 r (List.mem_of_getElem? hrr)
    have hlt : ((stM m).take i).length = i := by rw [List.length_take, q15o]; omega
    simp -implicitDefEqProofs only [eR', go_sem, q0qa, hrr, decide_eq_true (show (i : Int) < (m.length : Int) by omega)]
    refine SemC.loopR (σ := Nat) (fun k => St.of [(0, .t (.i pl)), (1, .t (rows m)), (4, .own 4), (5, .own 95), (6, .t (.i i)), (7, .own 97), (8, .t (.i k))] [(4, .box [.i 0, .v (.slice none 0 0)]), (95, q0qa ((stM m).take i)), (97, intsO ((posL r).take k))]) (fun k => k <= r.length) (fun k => r.length - k) 0 (Weak.o _ _ [some 4, some 95, some 16] ?_ ?_) (by omega) fun k hk R2 hn2 hr2 he2 => ?_
    . simp -implicitDefEqProofs only [wR', Nat.reduceBEq, Nat.reduceEqDiff, ↓reduceIte]
    . exact ⟨⟨_, rfl, .refl _⟩, rfl, ⟨_, rfl, .refl _⟩, rfl, ⟨_, rfl, .refl _⟩, rfl, trivial⟩
    rcases Nat.lt_or_ge k r.length with h8 | h8
    . obtain ⟨x, hx⟩ : ∃ x, r[k]? = some x := ⟨_, List.getElem?_eq_getElem h8⟩
      have hlk : ((posL r).take k).length = k := by rw [List.length_take, q0o9]; omega
      simp -implicitDefEqProofs only [eR', go_sem, q0qa, intsO, hrr, hx, decide_eq_true (show (k : Int) < (r.length : Int) by omega)]
      repeat (first | refine ⟨by omega, ?_⟩ | refine ⟨by rw [q0l0]; omega, ?_⟩)
      refine hn2 _ (k + 1) (Weak.o _ _ [some 4, some 95, some 36] ?_ ?_) (by omega) (by omega)
      . simp -implicitDefEqProofs only [wR', Nat.reduceBEq, Nat.reduceEqDiff, ↓reduceIte, q0lb h8 (by omega)]
      . refine ⟨⟨_, rfl, .refl _⟩, rfl, ⟨_, rfl, .refl _⟩, rfl, ⟨_, rfl, ?_⟩, rfl, trivial⟩
        rw [q0oa hx, intsO, List.map_append]; exact .refl _
    . have hlk : (posL r).take k = posL r := List.take_of_length_le (by rw [q0o9]; omega)
      simp -implicitDefEqProofs only [eR', go_sem, q0qa, intsO, hrr, hlk, decide_eq_false (show ¬ (k : Int) < (r.length : Int) by omega)]
      repeat (first | refine ⟨by omega, ?_⟩ | refine ⟨by rw [q0l0]; omega, ?_⟩)
      refine he2 _ _ ?_
      simp -implicitDefEqProofs only [eR', go_sem]
      have hpo := q155 r3 hB
      have hq := q0sw (posL r) (by rw [q0o9]; omega) hpo
      simp only [ints, intsO] at hq
      refine q006.res hq [97] rfl Try.call173 ?_ (.inr (q0fh _)) ?_
      . simp -implicitDefEqProofs only [aR', go_sem]
      simp -implicitDefEqProofs only [cR', go_sem]
      have hq := q0si (hvd 34 (posL r)) (q15h r3 hB r1 r2)
      simp only [ints, intsO] at hq
      refine q006.res hq [39] rfl Try.call172 ?_ (.inr (q0fh _)) ?_
      . simp -implicitDefEqProofs only [aR', go_sem]
      simp -implicitDefEqProofs only [cR', go_sem]
      repeat (first | refine ⟨by omega, ?_⟩ | refine ⟨by rw [q0l0]; omega, ?_⟩)
      refine hn _ (i + 1) (Weak.o _ _ [some 4, some 42] ?_ ?_) (by omega) (by omega)
      . simp -implicitDefEqProofs only [wR', Nat.reduceBEq, Nat.reduceEqDiff, ↓reduceIte, q0lb h9 (by omega)]
      . refine ⟨⟨_, rfl, .refl _⟩, rfl, ⟨_, rfl, ?_⟩, rfl, trivial⟩
        rw [q0tj hrr, q0qa, List.map_append]; exact .refl _
  . simp -implicitDefEqProofs only [eR', go_sem, q0qa, decide_eq_false (show ¬ (i : Int) < (m.length : Int) by omega)]
    refine he _ _ ?_
    simp -implicitDefEqProofs only [eR', go_sem, q0qa]
    rw [List.take_of_length_le (by rw [q15o]; exact h9)]
theorem q0f0 (pl : Int) (m : List (List Int)) {B : Int} (h : runL B m) (hB : B < 9223372036854775808) : Fun Try.prog 174 [] [.t (.i pl), .t (.sh 1 (m.map ints))] fun o r => o = [] /\ r = .agg [.i pl, .arr 1 ((stM m).map intsO)] := by
  obtain ⟨hm, hr0⟩ := h
  refine q0ao (by simp) ?_
  simp -implicitDefEqProofs only [eR', go_sem, q03q, opR, Nat.reduceBEq]
  refine SemC.loopR (σ := Nat) (fun i => St.of [(4, .own 4), (5, .own 5), (13, .t (rows m)), (14, .t (.i m.length)), (15, .t (.i i))] [(4, .box [.i 0, .v (.slice none 0 0)]), (5, .box [.i pl, q0qa ((stM m).take i)])]) (fun i => i <= m.length) (fun i => m.length - i) 0 (Weak.o _ _ [some 4, some 5] ?_ ?_) (by omega) fun i hi R hn hr he => ?_
  . simp -implicitDefEqProofs only [wR', Nat.reduceBEq, Nat.reduceEqDiff, ↓reduceIte]
  . exact ⟨⟨_, rfl, .refl _⟩, rfl, ⟨_, rfl, .box rfl fun j h1 h2 => (match j, h1 with | 0, _ => .refl _ | 1, _ => .nilArr _)⟩, rfl, trivial⟩
  rcases Nat.lt_or_ge i m.length with h9 | h9
  . obtain ⟨r, hrr⟩ : ∃ r, m[i]? = some r := ⟨_, List.getElem?_eq_getElem h9⟩
    obtain ⟨r1, r2, r3⟩ := hr0 r (List.mem_of_getElem? hrr)
    have hlt : ((stM m).take i).length = i := by rw [List.length_take, q15o]; omega
    have hpz : (posL r).length = (List.replicate r.length (0 : Int)).length := by rw [q0o9, List.length_replicate]
    simp -implicitDefEqProofs only [eR', go_sem, q0qa, hrr, decide_eq_true (show (i : Int) < (m.length : Int) by omega), q0jc]
    repeat (first | refine ⟨by omega, ?_⟩ | refine ⟨by rw [q0l0]; omega, ?_⟩)
    refine SemC.loopR (σ := Nat) (fun k => St.of [(4, .own 4), (5, .own 5), (8, .own 97), (13, .t (rows m)), (14, .t (.i m.length)), (15, .t (.i i)), (22, .t (ints r)), (23, .t (.i r.length)), (24, .t (.i k))] [(4, .box [.i 0, .v (.slice none 0 0)]), (5, .box [.i pl, q0qa ((stM m).take i)]), (97, intsO (mixL (posL r) (List.replicate r.length 0) k))]) (fun k => k <= r.length) (fun k => r.length - k) 0 (Weak.o _ _ [some 4, some 5, some 21] ?_ ?_) (by omega) fun k hk R2 hn2 hr2 he2 => ?_
    . simp -implicitDefEqProofs only [wR', Nat.reduceBEq, Nat.reduceEqDiff, ↓reduceIte]
    . refine ⟨⟨_, rfl, .refl _⟩, rfl, ⟨_, rfl, .refl _⟩, rfl, ⟨_, rfl, ?_⟩, rfl, trivial⟩
      rw [q14w, intsO, List.map_replicate]; exact .refl _
    rcases Nat.lt_or_ge k r.length with h8 | h8
    . obtain ⟨x, hx⟩ : ∃ x, r[k]? = some x := ⟨_, List.getElem?_eq_getElem h8⟩
      have hlk : (mixL (posL r) (List.replicate r.length 0) k).length = r.length := by rw [q14u hpz (by simpa using hk), List.length_replicate]
      simp -implicitDefEqProofs only [eR', go_sem, q0qa, intsO, hx, hlk, decide_eq_true (show (k : Int) < (r.length : Int) by omega)]
      repeat (first | refine ⟨by omega, ?_⟩ | refine ⟨by rw [q0l0]; omega, ?_⟩)
      refine hn2 _ (k + 1) (Weak.o _ _ [some 4, some 5, some 97] ?_ ?_) (by omega) (by omega)
      . simp -implicitDefEqProofs only [wR', Nat.reduceBEq, Nat.reduceEqDiff, ↓reduceIte, q0lb h8 (by omega)]
      . refine ⟨⟨_, rfl, .refl _⟩, rfl, ⟨_, rfl, .refl _⟩, rfl, ⟨_, rfl, ?_⟩, rfl, trivial⟩
        rw [← q14v hpz (show (posL r)[k]? = some (max 0 x) by simp [posL, hx]), intsO, List.map_set]; exact .refl _
    . have hkl : k = r.length := by omega
      have hall := q14s hpz
      rw [List.length_replicate] at hall
      subst hkl
      rw [hall]
      simp -implicitDefEqProofs only [eR', go_sem, q0qa, intsO, decide_eq_false (show ¬ (r.length : Int) < (r.length : Int) by omega)]
      refine he2 _ _ ?_
      simp -implicitDefEqProofs only [eR', go_sem]
      refine ⟨_, Weak.open 5 1 501 rfl rfl rfl (by decide) rfl, ?_⟩
      simp -implicitDefEqProofs only [eR', go_sem, q0qa, intsO]
      repeat (first | refine ⟨by omega, ?_⟩ | refine ⟨by rw [q0l0]; omega, ?_⟩)
      have hpo := q155 r3 hB
      have hq := q0em (posL r) (by intro e; have := congrArg List.length e; rw [q0o9, List.length_nil] at this; omega) (by rw [q0o9]; omega) hpo
      simp only [ints, intsO] at hq
      refine q000.res hq [97] rfl Try.call211 (fun e R' hR => ?_) (.inr (q0fh _)) ?_
      . have hq97 := (hR 97).resolve_left (by simp -implicitDefEqProofs only [eR', go_sem, not_false_eq_true])
        simp -implicitDefEqProofs only [eR', go_sem] at hq97
        simp -implicitDefEqProofs only [aR', go_sem, hq97]
      simp -implicitDefEqProofs only [cR', go_sem]
      have hq := q0ev (hvd 34 (posL r)) (q15h r3 hB r1 r2)
      simp only [ints, intsO] at hq
      refine q000.res hq [38] rfl Try.call193 (fun e R' hR => ?_) (.inr (q0fh _)) ?_
      . have hq38 := (hR 38).resolve_left (by simp -implicitDefEqProofs only [eR', go_sem, not_false_eq_true])
        simp -implicitDefEqProofs only [eR', go_sem] at hq38
        simp -implicitDefEqProofs only [aR', go_sem, hq38]
      simp -implicitDefEqProofs only [cR', go_sem, opR, Nat.reduceBEq]
      refine ⟨⟨by omega, hn _ (i + 1) (Weak.o _ _ [some 4, some 5] ?_ ?_) (by omega) (by omega)⟩, ((q09v.refl _ _ _).upd _ (.inl (by simp))).upd _ (.inr rfl)⟩
      . simp -implicitDefEqProofs only [wR', Nat.reduceBEq, Nat.reduceEqDiff, ↓reduceIte, q0lb h9 (by omega)]
      . refine ⟨⟨_, rfl, .refl _⟩, rfl, ⟨_, rfl, ?_⟩, rfl, trivial⟩
        rw [q0tj hrr, q0qa, List.map_append]; exact .refl _
  . simp -implicitDefEqProofs only [eR', go_sem, q0qa, decide_eq_false (show ¬ (i : Int) < (m.length : Int) by omega), opR, Nat.reduceBEq]
    refine he _ _ ?_
    simp -implicitDefEqProofs only [eR', go_sem, q0qa, opR, Nat.reduceBEq]
    rw [List.take_of_length_le (by rw [q15o]; exact h9)]
end
def ssB (g : Gm) (x : RS) : T := .box [nodes g.nd, rows g.w, rows g.v, .arr 1 [q0qa x.r0, q0qa x.r1], .arr 1 [q0qa x.s0, q0qa x.s1]]
def rsB (g : Gm) (x : RS) : T := .box [nodes g.nd, rows g.w, rows g.v, q0qa x.r0, q0qa x.r1, q0qa x.s0, q0qa x.s1]
def ssC (g : Gm) : Nat -> T
  | 0 => .v (.slice none 0 0)
  | 1 => .arr 1 [q0qa (q15z g 0)]
  | _ => .arr 1 [q0qa (q15z g 0), q0qa (q15z g 1)]
theorem q0y1 {g : Gm} {pl : Int} {i : Nat} (h : i < (sets g pl).length) : (q15z g pl).take (i + 1) = (q15z g pl).take i ++ [List.replicate (q0rh g pl i) 0] := q0uj (by simp [q15z, h])
theorem q0y0 (g : Gm) (pl : Int) : (q15z g pl).length = (sets g pl).length := by simp [q15z]
def rrC (g : Gm) (p : Int) (b : Bool) : T := if b = true then q0qa (q15z g p) else .v (.slice none 0 0)
section
attribute [-go_sem] q0i5 q0id fldC lenC idxC q0ip q0lp
theorem q0sx (g : Gm) (hg : q0fl g = true) : Fun Try.prog 168 [] [.t (.agg [.sh 5 (chunk q0lu g.nd), .sh 1 (g.w.map ints), .sh 1 (g.v.map ints)])] fun o r => o = [] /\ r = ssB g (q15i g 0) := by
  obtain ⟨p1, p2, p3, p4, p5⟩ := q0fn hg
  obtain ⟨t1, t2, t3, t4⟩ := q0g0 p1
  have w1 : IntKind.i64.wrap 1 = 1 := rfl
  have w2' : IntKind.i64.wrap (1 + 1) = 2 := rfl
  refine q0ca (by simp) ?_
  simp -implicitDefEqProofs only [eR', go_sem, q05c, opR, Nat.reduceBEq]
  refine SemC.loopR (σ := Nat) (fun q => St.of [(1, .own 1), (3, .own 111), (4, .t (.i q))] [(1, .box [nodes g.nd, rows g.w, rows g.v]), (111, .box [nodes g.nd, rows g.w, rows g.v, ssC g q, ssC g q])]) (fun q => q <= 2) (fun q => 2 - q) 0 (Weak.o _ _ [some 1, some 11] ?_ ?_) (by omega) fun q hq R hn hr he => ?_
  . simp -implicitDefEqProofs only [wR', Nat.reduceBEq, Nat.reduceEqDiff, ↓reduceIte, nodes]
  . exact ⟨⟨_, rfl, .refl _⟩, rfl, ⟨_, rfl, .refl _⟩, rfl, trivial⟩
  . match q, hq with
    | 0, _ =>
      have hsl := q15m hg 0
      simp -implicitDefEqProofs only [eR', go_sem, ssC, nodes, q0qa, decide_eq_true (show (0 : Int) < 2 by omega), Int.natCast_zero, Int.cast_ofNat_Int, opR, Nat.reduceBEq]
      have hp := q0sj g 0 t1.2 p2.2
      simp only [intsO] at hp
      refine q006.res hp [] rfl Try.call196 ?_ (.inl rfl) ?_
      . simp -implicitDefEqProofs only [aR', go_sem]
      simp -implicitDefEqProofs only [cR', go_sem]
      refine SemC.loopR (σ := Nat) (fun i => St.of [(1, .own 1), (3, .own 111), (4, .t (.i 0)), (5, .t (ints (q0rk g 0))), (6, .own 96), (7, .own 97), (8, .t (.i i))] [(1, .box [nodes g.nd, rows g.w, rows g.v]), (111, .box [nodes g.nd, rows g.w, rows g.v, ssC g 0, ssC g 0]), (96, q0qa ((q15z g 0).take i)), (97, q0qa ((q15z g 0).take i))]) (fun i => i <= (sets g 0).length) (fun i => (sets g 0).length - i) 0 (Weak.trans (Weak.share 18 rfl) (Weak.o _ _ [some 1, some 111, some 19, some 20] ?_ ?_)) (by simp) fun i hi R2 hn2 hr2 he2 => ?_
      . simp -implicitDefEqProofs only [wR', Nat.reduceBEq, Nat.reduceEqDiff, ↓reduceIte, q0rg, T.toSh, q0vf, nodes]
      . exact ⟨⟨_, rfl, .refl _⟩, rfl, ⟨_, rfl, .refl _⟩, rfl, ⟨_, rfl, .refl _⟩, rfl, ⟨_, rfl, .refl _⟩, rfl, trivial⟩
      rcases Nat.lt_or_ge i (sets g 0).length with h9 | h9
      . obtain ⟨b1, b2⟩ := q0ri hg ((.inl rfl) : (0 : Int) = 0 ∨ (0 : Int) = 1) h9
        have hlt : ((q15z g 0).take i).length = i := by rw [List.length_take, q0y0]; omega
        simp -implicitDefEqProofs only [eR', go_sem, nodes, q0qa, q0rm, q0rl h9, decide_eq_true (show (i : Int) < ((sets g 0).length : Int) by omega), q0jc]
        repeat (first | refine ⟨by omega, ?_⟩ | refine ⟨by rw [q0l0]; omega, ?_⟩)
        refine hn2 _ (i + 1) (Weak.o _ _ [some 1, some 111, some 34, some 42] ?_ ?_) (by omega) (by omega)
        . simp -implicitDefEqProofs only [wR', Nat.reduceBEq, Nat.reduceEqDiff, ↓reduceIte, nodes, q0lb h9 (by omega)]
        . refine ⟨⟨_, rfl, .refl _⟩, rfl, ⟨_, rfl, .refl _⟩, rfl, ⟨_, rfl, ?_⟩, rfl, ⟨_, rfl, ?_⟩, rfl, trivial⟩
          . rw [q0y1 h9, q0qa, List.map_append, List.map_cons, List.map_nil, intsO, List.map_replicate]; exact .refl _
          . rw [q0y1 h9, q0qa, List.map_append, List.map_cons, List.map_nil, intsO, List.map_replicate]; exact .refl _
      . have hil : i = (sets g 0).length := by omega
        have hta : (q15z g 0).take i = q15z g 0 := List.take_of_length_le (by rw [q0y0]; omega)
        simp -implicitDefEqProofs only [eR', go_sem, nodes, q0qa, hta, q0rm, decide_eq_false (show ¬ (i : Int) < ((sets g 0).length : Int) by omega)]
        refine he2 _ _ ?_
        simp -implicitDefEqProofs only [eR', go_sem, ssC, q0qa, opR, Nat.reduceBEq]
        repeat (first | refine ⟨by omega, ?_⟩ | refine ⟨by rw [q0l0]; omega, ?_⟩)
        refine hn _ 1 (Weak.o _ _ [some 1, some 111] ?_ ?_) (by omega) (by omega)
        . simp -implicitDefEqProofs only [wR', Nat.reduceBEq, Nat.reduceEqDiff, ↓reduceIte, nodes, Int.zero_add, w1]
        . exact ⟨⟨_, rfl, .refl _⟩, rfl, ⟨_, rfl, .refl _⟩, rfl, trivial⟩
    | 1, _ =>
      have hsl := q15m hg 1
      simp -implicitDefEqProofs only [eR', go_sem, ssC, nodes, q0qa, decide_eq_true (show (1 : Int) < 2 by omega), Int.natCast_zero, Int.cast_ofNat_Int, opR, Nat.reduceBEq]
      have hp := q0sj g 1 t1.2 p2.2
      simp only [intsO] at hp
      refine q006.res hp [] rfl Try.call196 ?_ (.inl rfl) ?_
      . simp -implicitDefEqProofs only [aR', go_sem]
      simp -implicitDefEqProofs only [cR', go_sem]
      refine SemC.loopR (σ := Nat) (fun i => St.of [(1, .own 1), (3, .own 111), (4, .t (.i 1)), (5, .t (ints (q0rk g 1))), (6, .own 96), (7, .own 97), (8, .t (.i i))] [(1, .box [nodes g.nd, rows g.w, rows g.v]), (111, .box [nodes g.nd, rows g.w, rows g.v, ssC g 1, ssC g 1]), (96, q0qa ((q15z g 1).take i)), (97, q0qa ((q15z g 1).take i))]) (fun i => i <= (sets g 1).length) (fun i => (sets g 1).length - i) 0 (Weak.trans (Weak.share 18 rfl) (Weak.o _ _ [some 1, some 111, some 19, some 20] ?_ ?_)) (by simp) fun i hi R2 hn2 hr2 he2 => ?_
      . simp -implicitDefEqProofs only [wR', Nat.reduceBEq, Nat.reduceEqDiff, ↓reduceIte, q0rg, T.toSh, q0vf, nodes]
      . exact ⟨⟨_, rfl, .refl _⟩, rfl, ⟨_, rfl, .refl _⟩, rfl, ⟨_, rfl, .refl _⟩, rfl, ⟨_, rfl, .refl _⟩, rfl, trivial⟩
      rcases Nat.lt_or_ge i (sets g 1).length with h9 | h9
      . obtain ⟨b1, b2⟩ := q0ri hg ((.inr rfl) : (1 : Int) = 0 ∨ (1 : Int) = 1) h9
        have hlt : ((q15z g 1).take i).length = i := by rw [List.length_take, q0y0]; omega
        simp -implicitDefEqProofs only [eR', go_sem, nodes, q0qa, q0rm, q0rl h9, decide_eq_true (show (i : Int) < ((sets g 1).length : Int) by omega), q0jc]
        repeat (first | refine ⟨by omega, ?_⟩ | refine ⟨by rw [q0l0]; omega, ?_⟩)
        refine hn2 _ (i + 1) (Weak.o _ _ [some 1, some 111, some 34, some 42] ?_ ?_) (by omega) (by omega)
        . simp -implicitDefEqProofs only [wR', Nat.reduceBEq, Nat.reduceEqDiff, ↓reduceIte, nodes, q0lb h9 (by omega)]
        . refine ⟨⟨_, rfl, .refl _⟩, rfl, ⟨_, rfl, .refl _⟩, rfl, ⟨_, rfl, ?_⟩, rfl, ⟨_, rfl, ?_⟩, rfl, trivial⟩
          . rw [q0y1 h9, q0qa, List.map_append, List.map_cons, List.map_nil, intsO, List.map_replicate]; exact .refl _
          . rw [q0y1 h9, q0qa, List.map_append, List.map_cons, List.map_nil, intsO, List.map_replicate]; exact .refl _
      . have hil : i = (sets g 1).length := by omega
        have hta : (q15z g 1).take i = q15z g 1 := List.take_of_length_le (by rw [q0y0]; omega)
        simp -implicitDefEqProofs only [eR', go_sem, nodes, q0qa, hta, q0rm, decide_eq_false (show ¬ (i : Int) < ((sets g 1).length : Int) by omega)]
        refine he2 _ _ ?_
        simp -implicitDefEqProofs only [eR', go_sem, ssC, q0qa, opR, Nat.reduceBEq]
        repeat (first | refine ⟨by omega, ?_⟩ | refine ⟨by rw [q0l0]; omega, ?_⟩)
        refine hn _ 2 (Weak.o _ _ [some 1, some 111] ?_ ?_) (by omega) (by omega)
        . simp -implicitDefEqProofs only [wR', Nat.reduceBEq, Nat.reduceEqDiff, ↓reduceIte, nodes, w2']
        . exact ⟨⟨_, rfl, .refl _⟩, rfl, ⟨_, rfl, .refl _⟩, rfl, trivial⟩
    | 2, _ =>
      simp -implicitDefEqProofs only [eR', go_sem, ssC, nodes, q0qa, decide_eq_false (show ¬ (2 : Int) < 2 by omega), Int.natCast_zero, Int.cast_ofNat_Int]
      refine he _ _ ?_
      simp -implicitDefEqProofs only [eR', go_sem, ssC, ssB, q15i, nodes, q0qa]
theorem q0er (g : Gm) (hg : q0fl g = true) : Fun Try.prog 170 [] [.t (.agg [.sh 5 (chunk q0lu g.nd), .sh 1 (g.w.map ints), .sh 1 (g.v.map ints)])] fun o r => o = [] /\ r = rsB g (q15i g 0) := by
  obtain ⟨p1, p2, p3, p4, p5⟩ := q0fn hg
  obtain ⟨t1, t2, t3, t4⟩ := q0g0 p1
  have w1 : IntKind.i64.wrap 1 = 1 := rfl
  have w2' : IntKind.i64.wrap (1 + 1) = 2 := rfl
  refine q0aj (by simp) ?_
  simp -implicitDefEqProofs only [eR', go_sem, q03l, opR, Nat.reduceBEq]
  refine SemC.loopR (σ := Nat) (fun q => St.of [(1, .own 1), (3, .own 111), (11, .t (.i q))] [(1, .box [nodes g.nd, rows g.w, rows g.v]), (111, .box [nodes g.nd, rows g.w, rows g.v, rrC g 0 (decide (0 < q)), rrC g 1 (decide (1 < q)), rrC g 0 (decide (0 < q)), rrC g 1 (decide (1 < q))])]) (fun q => q <= 2) (fun q => 2 - q) 0 (Weak.o _ _ [some 1, some 10] ?_ ?_) (by omega) fun q hq R hn hr he => ?_
  . simp -implicitDefEqProofs only [wR', Nat.reduceBEq, Nat.reduceEqDiff, ↓reduceIte, nodes]
  . exact ⟨⟨_, rfl, .refl _⟩, rfl, ⟨_, rfl, .refl _⟩, rfl, trivial⟩
  . match q, hq with
    | 0, _ =>
      have hsl := q15m hg 0
      simp -implicitDefEqProofs only [eR', go_sem, rrC, nodes, q0qa, decide_eq_true (show (0 : Int) < 2 by omega), Nat.lt_irrefl, Nat.zero_lt_one, decide_true, decide_false, Bool.false_eq_true, Int.natCast_zero, Int.cast_ofNat_Int, opR, Nat.reduceBEq]
      have hp := q0fd g 0 t1.2 p2.2
      simp only [q0qa] at hp
      refine q006.res hp [] rfl Try.call152 ?_ (.inl rfl) ?_
      . simp -implicitDefEqProofs only [aR', go_sem]
      simp -implicitDefEqProofs only [cR', go_sem]
      refine SemC.loopR (σ := Nat) (fun i => St.of [(1, .own 1), (3, .own 111), (4, .t (.i 0)), (11, .t (.i 0)), (16, .t (rows (sets g 0))), (17, .t (.i (sets g 0).length)), (18, .t (.i i))] [(1, .box [nodes g.nd, rows g.w, rows g.v]), (111, .box [nodes g.nd, rows g.w, rows g.v, q0qa ((q15z g 0).take i), .v (.slice none 0 0), q0qa ((q15z g 0).take i), .v (.slice none 0 0)])]) (fun i => i <= (sets g 0).length) (fun i => (sets g 0).length - i) 0 (Weak.trans (Weak.share 16 rfl) (Weak.o _ _ [some 1, some 111] ?_ ?_)) (by simp) fun i hi R2 hn2 hr2 he2 => ?_
      . simp -implicitDefEqProofs only [wR', Nat.reduceBEq, Nat.reduceEqDiff, ↓reduceIte, q0rg, T.toSh, q0vg, nodes]
      . exact ⟨⟨_, rfl, .refl _⟩, rfl, ⟨_, rfl, .box rfl fun j h1 h2 => (match j, h1 with | 0, _ => .refl _ | 1, _ => .refl _ | 2, _ => .refl _ | 3, _ => .nilArr _ | 4, _ => .refl _ | 5, _ => .nilArr _ | 6, _ => .refl _)⟩, rfl, trivial⟩
      rcases Nat.lt_or_ge i (sets g 0).length with h9 | h9
      . obtain ⟨b1, b2⟩ := q0ri hg ((.inl rfl) : (0 : Int) = 0 ∨ (0 : Int) = 1) h9
        obtain ⟨a1, a2, a3, a4, a5, a6⟩ := q15l h9
        obtain ⟨x, hx⟩ : ∃ x, g.nd[setN g 0 i]? = some x := ⟨_, List.getElem?_eq_getElem a2⟩
        have hxd : g.nd.getD (setN g 0 i) nd0 = x := by rw [List.getD_eq_getElem?_getD, hx]; rfl
        rw [hxd] at a5
        have hlt : ((q15z g 0).take i).length = i := by rw [List.length_take, q0y0]; omega
        simp -implicitDefEqProofs only [eR', go_sem, nodes, q0qa, a1, q0kz hx, ← a5, decide_eq_true (show (i : Int) < ((sets g 0).length : Int) by omega), List.getElem?_cons_zero, List.getElem?_cons_succ]
        repeat (first | refine ⟨by omega, ?_⟩ | refine ⟨by rw [q0l0]; omega, ?_⟩)
        refine ⟨_, Weak.open 111 3 501 rfl rfl rfl (by decide) rfl, ?_⟩
        simp -implicitDefEqProofs only [eR', go_sem, q0qa, q0jc, opR, Nat.reduceBEq]
        repeat (first | refine ⟨by omega, ?_⟩ | refine ⟨by rw [q0l0]; omega, ?_⟩)
        refine ⟨⟨by omega, ⟨by decide, ?_⟩, (((q09v.refl _ _ _).upd _ (.inl (by simp))).upd _ (.inl (by simp))).upd _ (.inr rfl)⟩, ((q09v.refl _ _ _).upd _ (.inl (by simp))).upd _ (.inr rfl)⟩
        refine ⟨_, Weak.open 111 5 502 rfl rfl rfl (by decide) rfl, ?_⟩
        simp -implicitDefEqProofs only [eR', go_sem, q0qa, q0jc, opR, Nat.reduceBEq]
        repeat (first | refine ⟨by omega, ?_⟩ | refine ⟨by rw [q0l0]; omega, ?_⟩)
        refine ⟨⟨by omega, ⟨by decide, ?_⟩, (((q09v.refl _ _ _).upd _ (.inl (by simp))).upd _ (.inl (by simp))).upd _ (.inr rfl)⟩, ((q09v.refl _ _ _).upd _ (.inl (by simp))).upd _ (.inr rfl)⟩
        refine hn2 _ (i + 1) (Weak.o _ _ [some 1, some 111] ?_ ?_) (by omega) (by omega)
        . simp -implicitDefEqProofs only [wR', Nat.reduceBEq, Nat.reduceEqDiff, ↓reduceIte, nodes, q0lb h9 (by omega)]
        . refine ⟨⟨_, rfl, .refl _⟩, rfl, ⟨_, rfl, ?_⟩, rfl, trivial⟩
          simp only [q0y1 h9, q0qa, List.map_append, List.map_cons, List.map_nil, intsO, List.map_replicate]; exact .refl _
      . have hil : i = (sets g 0).length := by omega
        have hta : (q15z g 0).take i = q15z g 0 := List.take_of_length_le (by rw [q0y0]; omega)
        simp -implicitDefEqProofs only [eR', go_sem, nodes, q0qa, hta, decide_eq_false (show ¬ (i : Int) < ((sets g 0).length : Int) by omega)]
        refine he2 _ _ ?_
        simp -implicitDefEqProofs only [eR', go_sem]
        refine hn _ 1 (Weak.o _ _ [some 1, some 111] ?_ ?_) (by omega) (by omega)
        . simp -implicitDefEqProofs only [wR', Nat.reduceBEq, Nat.reduceEqDiff, ↓reduceIte, nodes, Int.zero_add, w1]
        . exact ⟨⟨_, rfl, .refl _⟩, rfl, ⟨_, rfl, .refl _⟩, rfl, trivial⟩
    | 1, _ =>
      have hsl := q15m hg 1
      simp -implicitDefEqProofs only [eR', go_sem, rrC, nodes, q0qa, decide_eq_true (show (1 : Int) < 2 by omega), Nat.lt_irrefl, Nat.zero_lt_one, decide_true, decide_false, Bool.false_eq_true, Int.natCast_zero, Int.cast_ofNat_Int, opR, Nat.reduceBEq]
      have hp := q0fd g 1 t1.2 p2.2
      simp only [q0qa] at hp
      refine q006.res hp [] rfl Try.call152 ?_ (.inl rfl) ?_
      . simp -implicitDefEqProofs only [aR', go_sem]
      simp -implicitDefEqProofs only [cR', go_sem]
      refine SemC.loopR (σ := Nat) (fun i => St.of [(1, .own 1), (3, .own 111), (4, .t (.i 1)), (11, .t (.i 1)), (16, .t (rows (sets g 1))), (17, .t (.i (sets g 1).length)), (18, .t (.i i))] [(1, .box [nodes g.nd, rows g.w, rows g.v]), (111, .box [nodes g.nd, rows g.w, rows g.v, q0qa (q15z g 0), q0qa ((q15z g 1).take i), q0qa (q15z g 0), q0qa ((q15z g 1).take i)])]) (fun i => i <= (sets g 1).length) (fun i => (sets g 1).length - i) 0 (Weak.trans (Weak.share 16 rfl) (Weak.o _ _ [some 1, some 111] ?_ ?_)) (by simp) fun i hi R2 hn2 hr2 he2 => ?_
      . simp -implicitDefEqProofs only [wR', Nat.reduceBEq, Nat.reduceEqDiff, ↓reduceIte, q0rg, T.toSh, q0vg, nodes]
      . exact ⟨⟨_, rfl, .refl _⟩, rfl, ⟨_, rfl, .box rfl fun j h1 h2 => (match j, h1 with | 0, _ => .refl _ | 1, _ => .refl _ | 2, _ => .refl _ | 3, _ => .refl _ | 4, _ => .nilArr _ | 5, _ => .refl _ | 6, _ => .nilArr _)⟩, rfl, trivial⟩
      rcases Nat.lt_or_ge i (sets g 1).length with h9 | h9
      . obtain ⟨b1, b2⟩ := q0ri hg ((.inr rfl) : (1 : Int) = 0 ∨ (1 : Int) = 1) h9
        obtain ⟨a1, a2, a3, a4, a5, a6⟩ := q15l h9
        obtain ⟨x, hx⟩ : ∃ x, g.nd[setN g 1 i]? = some x := ⟨_, List.getElem?_eq_getElem a2⟩
        have hxd : g.nd.getD (setN g 1 i) nd0 = x := by rw [List.getD_eq_getElem?_getD, hx]; rfl
        rw [hxd] at a5
        have hlt : ((q15z g 1).take i).length = i := by rw [List.length_take, q0y0]; omega
        simp -implicitDefEqProofs only [eR', go_sem, nodes, q0qa, a1, q0kz hx, ← a5, decide_eq_true (show (i : Int) < ((sets g 1).length : Int) by omega), List.getElem?_cons_zero, List.getElem?_cons_succ]
        repeat (first | refine ⟨by omega, ?_⟩ | refine ⟨by rw [q0l0]; omega, ?_⟩)
        refine ⟨_, Weak.open 111 4 501 rfl rfl rfl (by decide) rfl, ?_⟩
        simp -implicitDefEqProofs only [eR', go_sem, q0qa, q0jc, opR, Nat.reduceBEq]
        repeat (first | refine ⟨by omega, ?_⟩ | refine ⟨by rw [q0l0]; omega, ?_⟩)
        refine ⟨⟨by omega, ⟨by decide, ?_⟩, (((q09v.refl _ _ _).upd _ (.inl (by simp))).upd _ (.inl (by simp))).upd _ (.inr rfl)⟩, ((q09v.refl _ _ _).upd _ (.inl (by simp))).upd _ (.inr rfl)⟩
        refine ⟨_, Weak.open 111 6 502 rfl rfl rfl (by decide) rfl, ?_⟩
        simp -implicitDefEqProofs only [eR', go_sem, q0qa, q0jc, opR, Nat.reduceBEq]
        repeat (first | refine ⟨by omega, ?_⟩ | refine ⟨by rw [q0l0]; omega, ?_⟩)
        refine ⟨⟨by omega, ⟨by decide, ?_⟩, (((q09v.refl _ _ _).upd _ (.inl (by simp))).upd _ (.inl (by simp))).upd _ (.inr rfl)⟩, ((q09v.refl _ _ _).upd _ (.inl (by simp))).upd _ (.inr rfl)⟩
        refine hn2 _ (i + 1) (Weak.o _ _ [some 1, some 111] ?_ ?_) (by omega) (by omega)
        . simp -implicitDefEqProofs only [wR', Nat.reduceBEq, Nat.reduceEqDiff, ↓reduceIte, nodes, q0lb h9 (by omega)]
        . refine ⟨⟨_, rfl, .refl _⟩, rfl, ⟨_, rfl, ?_⟩, rfl, trivial⟩
          simp only [q0y1 h9, q0qa, List.map_append, List.map_cons, List.map_nil, intsO, List.map_replicate]; exact .refl _
      . have hil : i = (sets g 1).length := by omega
        have hta : (q15z g 1).take i = q15z g 1 := List.take_of_length_le (by rw [q0y0]; omega)
        simp -implicitDefEqProofs only [eR', go_sem, nodes, q0qa, hta, decide_eq_false (show ¬ (i : Int) < ((sets g 1).length : Int) by omega)]
        refine he2 _ _ ?_
        simp -implicitDefEqProofs only [eR', go_sem]
        refine hn _ 2 (Weak.o _ _ [some 1, some 111] ?_ ?_) (by omega) (by omega)
        . simp -implicitDefEqProofs only [wR', Nat.reduceBEq, Nat.reduceEqDiff, ↓reduceIte, nodes, w2']
        . exact ⟨⟨_, rfl, .refl _⟩, rfl, ⟨_, rfl, .refl _⟩, rfl, trivial⟩
    | 2, _ =>
      simp -implicitDefEqProofs only [eR', go_sem, rrC, nodes, q0qa, decide_eq_false (show ¬ (2 : Int) < 2 by omega), Int.natCast_zero, Int.cast_ofNat_Int]
      refine he _ _ ?_
      simp -implicitDefEqProofs only [eR', go_sem, rrC, rsB, q15i, nodes, q0qa]
end
def pwrK (l : List Nd) (ch : List Int) (k : Nat) : Int := (ch.take k).foldl (fun d (c : Int) => max d (dep l l.length c.toNat)) 0
theorem q0oo {l : List Nd} {ch : List Int} {k : Nat} {c : Int} (h : ch[k]? = some c) : pwrK l ch (k + 1) = max (pwrK l ch k) (dep l l.length c.toNat) := by
  simp only [pwrK, q0uj h, List.foldl_append, List.foldl_cons, List.foldl_nil]
theorem q0om {g : Gm} (hg : q0fl g = true) {n : Nat} (hn : n < g.nd.length) (h2 : (g.nd.getD n nd0).p ≠ 2) : pwrK g.nd (g.nd.getD n nd0).ch (g.nd.getD n nd0).ch.length = q144 g n := by
  obtain ⟨p1, p2, p3, p4, p5⟩ := q0fn hg
  obtain ⟨t1, t2, t3, t4⟩ := q0g0 p1
  obtain ⟨e1, e2, e3⟩ := q145 hg hn h2
  have hx : g.nd[n]? = some (g.nd.getD n nd0) := by rw [List.getD_eq_getElem?_getD, List.getElem?_eq_getElem hn]; rfl
  have hch := q0kp (t2 n _ hx)
  obtain ⟨F, hF⟩ : ∃ F, g.nd.length = F + 1 := ⟨g.nd.length - 1, by omega⟩
  have e4 : dep g.nd (F + 1) n = ((g.nd.getD n nd0).ch.foldl (fun d c => max d (dep g.nd F c.toNat)) 0) + 1 := by
    rw [dep]; exact if_neg h2
  rw [hF, e4] at e2
  have e5 : (g.nd.getD n nd0).ch.foldl (fun d (c : Int) => max d (dep g.nd g.nd.length c.toNat)) 0 = (g.nd.getD n nd0).ch.foldl (fun d c => max d (dep g.nd F c.toNat)) 0 := by
    refine q09m _ _ fun b c hc => ?_
    have := hch c hc
    rw [q07y t2 g.nd.length F c.toNat (by omega) (by omega)]
  rw [pwrK, List.take_of_length_le (Nat.le_refl _), e5]
  omega
theorem q0on {g : Gm} (hg : q0fl g = true) {n : Nat} (hn : n < g.nd.length) (h2 : (g.nd.getD n nd0).p ≠ 2) (k : Nat) : 0 <= pwrK g.nd (g.nd.getD n nd0).ch k /\ pwrK g.nd (g.nd.getD n nd0).ch k <= 4 := by
  obtain ⟨e1, e2, e3⟩ := q145 hg hn h2
  unfold pwrK
  have h : ∀ (cs : List Int) (a : Int), (∀ c ∈ cs, dep g.nd g.nd.length c.toNat <= 4) -> 0 <= a /\ a <= 4 -> 0 <= cs.foldl (fun d (c : Int) => max d (dep g.nd g.nd.length c.toNat)) a /\ cs.foldl (fun d (c : Int) => max d (dep g.nd g.nd.length c.toNat)) a <= 4 := by
    intro cs
    induction cs with
    | nil => intro a _ h; exact h
    | cons c cs ih => intro a h ha; exact ih _ (fun c' hc' => h c' (by simp [hc'])) (by have := h c (by simp); show 0 <= max a (dep g.nd g.nd.length c.toNat) /\ max a (dep g.nd g.nd.length c.toNat) <= 4; omega)
  exact h _ _ (fun c hc => by have := (e3 c (List.mem_of_mem_take hc)).2.2; omega) (by omega)
def cntW (g : Gm) (s t : List (List Int)) (pl : Int) (n c m : Nat) : List Int := (g.nd.getD n nd0).ch.map fun k => cntN g s t pl n c k.toNat m
theorem q06q (g : Gm) (s t : List (List Int)) (pl : Int) (n c m : Nat) : (cntW g s t pl n c m).length = (g.nd.getD n nd0).ch.length := by simp [cntW]
theorem q06p {g : Gm} {s t : List (List Int)} {pl : Int} {n c m k : Nat} {x : Int} (h : (g.nd.getD n nd0).ch[k]? = some x) : (cntW g s t pl n c m)[k]? = some (cntN g s t pl n c x.toNat m) := by rw [cntW, List.getElem?_map, h]; rfl
theorem q06s (g : Gm) (s t : List (List Int)) (pl : Int) (n c : Nat) : cntW g s t pl n c 0 = List.replicate (g.nd.getD n nd0).ch.length 0 := by
  unfold cntW
  generalize (g.nd.getD n nd0).ch = l
  induction l with
  | nil => rfl
  | cons x l ih => rw [List.map_cons, ih]; rfl
theorem q06r {g : Gm} {s t : List (List Int)} {pl : Int} {n c m : Nat} (h : rchW g s t pl n c m = 0) : cntW g s t pl n c (m + 1) = cntW g s t pl n c m := by
  unfold cntW
  refine List.map_congr_left fun k _ => ?_
  rw [q148, cntF, h, Int.zero_mul, Int.add_zero]
theorem q0r2 {α : Type} {l : List α} {i : Nat} {x : α} (h : l[i]? = some x) : l.set i x = l := by
  obtain ⟨h1, rfl⟩ := List.getElem?_eq_some_iff.1 h
  exact List.set_getElem_self h1
def evT (g : Gm) (s t : List (List Int)) : T := .pin [.sh 5 (chunk q0lu g.nd), .sh 1 (g.w.map ints), .sh 1 (g.v.map ints), .sh 1 ((ownL g 0).map T.i), .sh 1 ((ownL g 1).map T.i), .sh 1 (s.map ints), .sh 1 (t.map ints), .sh 1 ((parN g.nd g.nd.length).map T.i)] 0
section
attribute [-go_sem] q0i5 q0id fldC lenC idxC q0ip q0lp
set_option maxHeartbeats 2000000 in
theorem q0f4 {g : Gm} (hg : q0fl g = true) {s t : List (List Int)} (hs : q0nw g s 0) (ht : q0nw g t 1) {R Z U V : List (List Int)} {B : Int} (hR : okM g 0 B R) (hZ : okM g 0 B Z) (hB : B <= 30000000000000000) {i : Nat} (hi : i < (sets g 0).length) :
    Fun Try.prog 210 [.box [nodes g.nd, rows g.w, rows g.v, q0qa R, q0qa U, q0qa Z, q0qa V]] [.own 1000000000, .t (evT g s t), .t (.i 0), .t (.i i), .t (.i (setN g 0 i)), .t (.i (setC g 0 i))] fun o q => o = [.box [nodes g.nd, rows g.w, rows g.v, q0qa (R.set i (rowR g s t 0 R i)), q0qa U, q0qa (Z.set i (rowS g s t 0 Z i)), q0qa V]] /\ q = .tup [] := by
  obtain ⟨p1, p2, p3, p4, p5⟩ := q0fn hg
  obtain ⟨t1, t2, t3, t4⟩ := q0g0 p1
  obtain ⟨a1, a2, a3, a4, a5, a6⟩ := q15l hi
  obtain ⟨r, hr, hr', hrl, hrb⟩ := q150 hR hi
  obtain ⟨z, hz, hz', hzl, hzb⟩ := q150 hZ hi
  obtain ⟨w1, w2, w3, w4⟩ := q14r hg ((.inl rfl) : (0 : Int) = 0 ∨ (0 : Int) = 1) (q153 hs ht (.inl rfl)).1 hi
  obtain ⟨f1, f2⟩ := q15f hg hs ht (.inl rfl) hR hi
  obtain ⟨f3, f4⟩ := q15g hg hs ht (.inl rfl) hZ hi
  have hmw : wayP g (q10l 0 s t) 0 (setC g 0 i) (setN g 0 i) = wayP g (q10l 0 s t) 0 (if (0 : Int) = 0 then setC g 0 i else setC g 0 i) (setN g 0 i) := by split <;> rfl
  have hRd : rowR g s t 0 R i = updR r (cnts g s t 0 (setN g 0 i) (setC g 0 i)) (q14l ((q10l 0 s t).getD i []) (cnts g s t 0 (setN g 0 i) (setC g 0 i))) := by rw [rowR, hr']
  have hSd : rowS g s t 0 Z i = updW z ((q10l 0 s t).getD i []) (wayP g (q10l 0 s t) 0 (setC g 0 i) (setN g 0 i)) := by rw [rowS, hz']
  generalize hqq : (q10l 0 s t).getD i [] = q at w1 w2 w3 w4 hRd hSd
  generalize setN g 0 i = n at a1 a2 a4 a5 hRd hSd hmw ⊢
  generalize setC g 0 i = c at a1 a3 hRd hSd hmw ⊢
  have hn := a2
  have hc := a3
  have h2 : (g.nd.getD n nd0).p ≠ 2 := by omega
  obtain ⟨e1, e2, e3⟩ := q145 hg hn h2
  have hpk := q0on hg hn h2
  have hpa := q0om hg hn h2
  obtain ⟨x, hx⟩ : ∃ x, g.nd[n]? = some x := ⟨_, List.getElem?_eq_getElem hn⟩
  have hxd : g.nd.getD n nd0 = x := by rw [List.getD_eq_getElem?_getD, hx]; rfl
  have hxl := (q0ks (t2 _ _ hx)).2.2.2.2.2
  have hch := q0kp (t2 n _ hx)
  have hcvl := q06q g s t 0 n c
  have hcvg : ∀ (k m : Nat) (y : Int), x.ch[k]? = some y -> (cntW g s t 0 n c m)[k]? = some (cntN g s t 0 n c y.toNat m) := fun k m y h => q06p (by rw [hxd]; exact h)
  have hcv0 := q06s g s t 0 n c
  have hcvA : cntW g s t 0 n c g.w.length = cnts g s t 0 n c := rfl
  rw [hxd] at e3 a5 hcv0 hpa hpk hcvl
  have hcb := q149 hg hs ht ((.inl rfl) : (0 : Int) = 0 ∨ (0 : Int) = 1) hn h2 hc
  have hcl := q14b g s t 0 n c
  rw [hxd] at hcl
  refine q0a6 (by simp) ?_
  simp -implicitDefEqProofs only [eR', go_sem, q038, nodes, q0qa, q0kz hx, opR, Nat.reduceBEq]
  repeat (first | refine ⟨by omega, ?_⟩ | refine ⟨by rw [q0l0]; omega, ?_⟩)
  refine SemC.loopR (σ := Nat) (fun k => St.of [(0, .own 1000000000), (1, .t (evT g s t)), (2, .t (.i 0)), (3, .t (.i i)), (4, .t (.i n)), (5, .t (.i c)), (12, .t (ints x.ch)), (13, .t (.i (pwrK g.nd x.ch k))), (41, .t (ints x.ch)), (42, .t (.i x.ch.length)), (43, .t (.i k))] [(1000000000, .box [nodes g.nd, rows g.w, rows g.v, q0qa R, q0qa U, q0qa Z, q0qa V])]) (fun k => k <= x.ch.length) (fun k => x.ch.length - k) 0 (Weak.o _ _ [some 1000000000] ?_ ?_) (by omega) fun k hk Q1 hn1 hr1 he1 => ?_
  . simp -implicitDefEqProofs only [wR', Nat.reduceBEq, Nat.reduceEqDiff, ↓reduceIte, nodes, evT, show pwrK g.nd x.ch 0 = 0 from rfl]
  . exact ⟨⟨_, rfl, .refl _⟩, rfl, trivial⟩
  rcases Nat.lt_or_ge k x.ch.length with h9 | h9
  . obtain ⟨y, hy⟩ : ∃ y, x.ch[k]? = some y := ⟨_, List.getElem?_eq_getElem h9⟩
    obtain ⟨y0, y1, y2⟩ := e3 y (List.mem_of_getElem? hy)
    simp -implicitDefEqProofs only [eR', go_sem, nodes, q0qa, evT, hy, decide_eq_true (show (k : Int) < (x.ch.length : Int) by omega), opR, Nat.reduceBEq]
    repeat (first | refine ⟨by omega, ?_⟩ | refine ⟨by rw [q0l0]; omega, ?_⟩)
    have hd := q080 (q0ek t2 (by omega) g.nd.length y.toNat (by omega) y1 (by omega))
    rw [show ((y.toNat : Nat) : Int) = y by omega] at hd
    refine q006.p hd [] rfl Try.call164 ?_ ?_
    . simp -implicitDefEqProofs only [aR', go_sem]
    simp -implicitDefEqProofs only [eR', go_sem]
    refine hn1 _ (k + 1) (Weak.o _ _ [some 1000000000] ?_ ?_) (by omega) (by omega)
    . simp -implicitDefEqProofs only [wR', Nat.reduceBEq, Nat.reduceEqDiff, ↓reduceIte, nodes, evT, q0lb h9 (show x.ch.length <= 1000000000000 by omega), q0oo hy]
    . exact ⟨⟨_, rfl, .refl _⟩, rfl, trivial⟩
  have hkl : k = x.ch.length := by omega
  subst hkl
  rw [hpa]
  simp -implicitDefEqProofs only [eR', go_sem, nodes, q0qa, evT, decide_eq_false (show ¬ (x.ch.length : Int) < (x.ch.length : Int) by omega), opR, Nat.reduceBEq]
  refine he1 _ _ ?_
  simp -implicitDefEqProofs only [eR', go_sem, q0jc, opR, Nat.reduceBEq]
  repeat (first | refine ⟨by omega, ?_⟩ | refine ⟨by rw [q0l0]; omega, ?_⟩)
  refine SemC.loopR (σ := Nat) (fun o => St.of [(0, .own 1000000000), (1, .t (evT g s t)), (2, .t (.i 0)), (3, .t (.i i)), (4, .t (.i n)), (5, .t (.i c)), (12, .t (ints x.ch)), (13, .t (.i (q144 g n))), (16, .own 98), (65, .t (.i g.w.length)), (66, .t (.i o))] [(1000000000, .box [nodes g.nd, rows g.w, rows g.v, q0qa R, q0qa U, q0qa Z, q0qa V]), (98, intsO (cntW g s t 0 n c o))]) (fun o => o <= g.w.length) (fun o => g.w.length - o) 0 (Weak.o _ _ [some 1000000000, some 59] ?_ ?_) (by omega) fun o ho Q2 hn2 hr2 he2 => ?_
  . simp -implicitDefEqProofs only [wR', Nat.reduceBEq, Nat.reduceEqDiff, ↓reduceIte, nodes, evT]
  . refine ⟨⟨_, rfl, .refl _⟩, rfl, ⟨_, rfl, ?_⟩, rfl, trivial⟩
    rw [hcv0, intsO, List.map_replicate]; exact .refl _
  rcases Nat.lt_or_ge o g.w.length with h8 | h8
  . obtain ⟨rw0, zw, hr0, hzw, hz0, hz9⟩ := q0cn hg hc h8
    have hrwl : rw0.length = g.w.length := ((q0js.1 p3).2 rw0 (List.mem_of_getElem? hr0)).1
    have hwz : wAt g 0 c o = zw := by
      unfold wAt
      simp only [List.getD_eq_getElem?_getD, hr0, hzw, Option.getD_some, if_pos]
    have hot := (q153 hs ht ((.inl rfl) : (0 : Int) = 0 ∨ (0 : Int) = 1)).2
    have hr1' := q158 (c := c) hg hs ht ((.inl rfl) : (0 : Int) = 0 ∨ (0 : Int) = 1) hn h8
    have hpw := q157 (p := (wayL g.nd n).length) (by omega)
    have hcall := q0f8 hg hs ht ((.inr rfl) : (1 : Int) = 0 ∨ (1 : Int) = 1) (n := n) (a := c) (b := o) hn (by omega) (by omega)
    rw [show (if (1 : Int) = 0 then c else o) = o from rfl] at hcall
    have hrw : 1 * zw * wayP g (q10l 1 s t) 1 o n = rchW g s t 0 n c o := by rw [rchW, hwz]; rfl
    simp -implicitDefEqProofs only [eR', go_sem, nodes, q0qa, intsO, evT, hr0, hzw, decide_eq_true (show (o : Int) < (g.w.length : Int) by omega), show ((0 : Int) == 1) = false from rfl, show ((1 : Int) == 1) = true from rfl, show IntKind.i64.wrap (1 - 0) = 1 from rfl, show IntKind.i64.wrap (1 - 1) = 0 from rfl, opR, Nat.reduceBEq]
    repeat (first | refine ⟨by omega, ?_⟩ | refine ⟨by rw [q0l0]; omega, ?_⟩)
    refine q002.ref hcall [] [] rfl Try.call226 (by simp) ?_ (by simp) (fun e R' hR => ?_) (.inl rfl) ?_
    . simp -implicitDefEqProofs only [sR', Nat.reduceEqDiff, ↓reduceIte]
    . simp -implicitDefEqProofs only [aR', go_sem]
    simp -implicitDefEqProofs only [cR', go_sem, wrap64 (n := 1 * zw) (by omega) (by omega), hrw, wrap64 (n := rchW g s t 0 n c o) (by omega) (by omega)]
    refine ⟨⟨fun h5 => ?_, fun h5 => ?_⟩, q09v.refl _ _ _⟩
    . have h5 : rchW g s t 0 n c o = 0 := by simpa using h5
      refine hn2 _ (o + 1) (Weak.o _ _ [some 1000000000, some 98] ?_ ?_) (by omega) (by omega)
      . simp -implicitDefEqProofs only [wR', Nat.reduceBEq, Nat.reduceEqDiff, ↓reduceIte, nodes, evT, q0lb h8 (by omega)]
      . refine ⟨⟨_, rfl, .refl _⟩, rfl, ⟨_, rfl, ?_⟩, rfl, trivial⟩
        rw [q06r h5]; exact .refl _
    . refine SemC.loopR (σ := Nat) (fun k => St.of [(0, .own 1000000000), (1, .t (evT g s t)), (2, .t (.i 0)), (3, .t (.i i)), (4, .t (.i n)), (5, .t (.i c)), (12, .t (ints x.ch)), (13, .t (.i (q144 g n))), (16, .own 98), (18, .t (.i c)), (19, .t (.i o)), (21, .t (.i (rchW g s t 0 n c o))), (65, .t (.i g.w.length)), (66, .t (.i o)), (98, .t (ints x.ch)), (99, .t (.i x.ch.length)), (100, .t (.i k))] [(1000000000, .box [nodes g.nd, rows g.w, rows g.v, q0qa R, q0qa U, q0qa Z, q0qa V]), (98, intsO (mixL (cntW g s t 0 n c (o + 1)) (cntW g s t 0 n c o) k))]) (fun k => k <= x.ch.length) (fun k => x.ch.length - k) 0 (Weak.o _ _ [some 1000000000, some 98] ?_ ?_) (by omega) fun k hk Q3 hn3 hr3 he3 => ?_
      . simp -implicitDefEqProofs only [wR', Nat.reduceBEq, Nat.reduceEqDiff, ↓reduceIte, nodes, evT]
      . refine ⟨⟨_, rfl, .refl _⟩, rfl, ⟨_, rfl, ?_⟩, rfl, trivial⟩
        rw [q14w]; exact .refl _
      have hcl1 : (cntW g s t 0 n c (o + 1)).length = (cntW g s t 0 n c o).length := by rw [q06q, q06q]
      have hcl0 : (cntW g s t 0 n c o).length = x.ch.length := by rw [q06q, hxd]
      rcases Nat.lt_or_ge k x.ch.length with h7 | h7
      . obtain ⟨y, hy⟩ : ∃ y, x.ch[k]? = some y := ⟨_, List.getElem?_eq_getElem h7⟩
        obtain ⟨y0, y1, y2⟩ := e3 y (List.mem_of_getElem? hy)
        have hym : y ∈ (g.nd.getD n nd0).ch := by rw [hxd]; exact List.mem_of_getElem? hy
        have hsu := q148 g s t 0 n c y.toNat o
        have k1 := q147 hg hs ht ((.inl rfl) : (0 : Int) = 0 ∨ (0 : Int) = 1) hn h2 hc hym (m := o) (by omega)
        have k2 := q147 hg hs ht ((.inl rfl) : (0 : Int) = 0 ∨ (0 : Int) = 1) hn h2 hc hym (m := o + 1) (by omega)
        have k3 := q146 hg hs ht ((.inl rfl) : (0 : Int) = 0 ∨ (0 : Int) = 1) hn h2 hc h8 hym
        have hval := q0xc (q0f7 hg hs ht hc h8 g.nd.length y.toNat (q144 g n) (by omega) y1 y2 (by omega))
        rw [show ((y.toNat : Nat) : Int) = y by omega] at hval
        have hcf : rchW g s t 0 n c o * val g s t g.nd.length y.toNat c o (q144 g n) = cntF g s t 0 n c y.toNat o := rfl
        have hg1 : (mixL (cntW g s t 0 n c (o + 1)) (cntW g s t 0 n c o) k)[k]? = some (cntN g s t 0 n c y.toNat o) := by
          rw [q14t hcl1 (by omega)]; exact hcvg k o y hy
        have hml : (mixL (cntW g s t 0 n c (o + 1)) (cntW g s t 0 n c o) k).length = x.ch.length := by rw [q14u hcl1 (by omega), hcl0]
        simp -implicitDefEqProofs only [eR', go_sem, nodes, q0qa, intsO, evT, hy, hg1, hml, decide_eq_true (show (k : Int) < (x.ch.length : Int) by omega), opR, Nat.reduceBEq]
        repeat (first | refine ⟨by omega, ?_⟩ | refine ⟨by rw [q0l0]; omega, ?_⟩)
        refine q002.ref hval [] [] rfl Try.call180 (by simp) ?_ (by simp) (fun e R' hR => ?_) (.inl rfl) ?_
        . simp -implicitDefEqProofs only [sR', Nat.reduceEqDiff, ↓reduceIte]
        . simp -implicitDefEqProofs only [aR', go_sem]
        simp -implicitDefEqProofs only [cR', go_sem, hml, hcf, wrap64 (n := cntF g s t 0 n c y.toNat o) (by omega) (by omega), ← hsu, wrap64 (n := cntN g s t 0 n c y.toNat (o + 1)) (by omega) (by omega)]
        refine ⟨⟨by omega, by omega, by omega, hn3 _ (k + 1) (Weak.o _ _ [some 1000000000, some 98] ?_ ?_) (by omega) (by omega)⟩, q09v.refl _ _ _⟩
        . simp -implicitDefEqProofs only [wR', Nat.reduceBEq, Nat.reduceEqDiff, ↓reduceIte, nodes, evT, q0lb h7 (show x.ch.length <= 1000000000000 by omega)]
        . refine ⟨⟨_, rfl, .refl _⟩, rfl, ⟨_, rfl, ?_⟩, rfl, trivial⟩
          rw [← q14v hcl1 (hcvg k (o + 1) y hy), intsO, List.map_set]; exact .refl _
      . have hall : mixL (cntW g s t 0 n c (o + 1)) (cntW g s t 0 n c o) k = cntW g s t 0 n c (o + 1) := by
          have := q14s hcl1
          rw [hcl0] at this
          rw [show k = x.ch.length by omega]; exact this
        rw [hall]
        simp -implicitDefEqProofs only [eR', go_sem, nodes, q0qa, intsO, evT, decide_eq_false (show ¬ (k : Int) < (x.ch.length : Int) by omega), opR, Nat.reduceBEq]
        refine he3 _ _ ?_
        simp -implicitDefEqProofs only [eR', go_sem]
        refine hn2 _ (o + 1) (Weak.o _ _ [some 1000000000, some 98] ?_ ?_) (by omega) (by omega)
        . simp -implicitDefEqProofs only [wR', Nat.reduceBEq, Nat.reduceEqDiff, ↓reduceIte, nodes, evT, q0lb h8 (by omega)]
        . exact ⟨⟨_, rfl, .refl _⟩, rfl, ⟨_, rfl, .refl _⟩, rfl, trivial⟩
  have hol : o = g.w.length := by omega
  subst hol
  rw [hcvA]
  simp -implicitDefEqProofs only [eR', go_sem, nodes, q0qa, intsO, evT, decide_eq_false (show ¬ (g.w.length : Int) < (g.w.length : Int) by omega), opR, Nat.reduceBEq]
  refine he2 _ _ ?_
  have hqi : (q10l 0 s t)[i]? = some q := w1
  have hqs : s[i]? = some q := hqi
  have hqsl := (List.getElem?_eq_some_iff.1 hqs).1
  simp -implicitDefEqProofs only [eR', go_sem, evT, hqs, opR, Nat.reduceBEq]
  repeat (first | refine ⟨by omega, ?_⟩ | refine ⟨by rw [q0l0]; omega, ?_⟩)
  refine SemC.loopR (σ := Nat) (fun k => St.of [(0, .own 1000000000), (1, .t (evT g s t)), (2, .t (.i 0)), (3, .t (.i i)), (4, .t (.i n)), (5, .t (.i c)), (16, .own 98), (24, .t (ints q)), (25, .t (.i (q14m q (cnts g s t 0 n c) k))), (130, .t (ints q)), (131, .t (.i q.length)), (132, .t (.i k))] [(1000000000, .box [nodes g.nd, rows g.w, rows g.v, q0qa R, q0qa U, q0qa Z, q0qa V]), (98, intsO (cnts g s t 0 n c))]) (fun k => k <= q.length) (fun k => q.length - k) 0 (Weak.o _ _ [some 1000000000, some 98] ?_ ?_) (by omega) fun k hk Q4 hn4 hr4 he4 => ?_
  . simp -implicitDefEqProofs only [wR', Nat.reduceBEq, Nat.reduceEqDiff, ↓reduceIte, nodes, evT, q14p]
  . exact ⟨⟨_, rfl, .refl _⟩, rfl, ⟨_, rfl, .refl _⟩, rfl, trivial⟩
  rcases Nat.lt_or_ge k q.length with h9 | h9
  . obtain ⟨y, hy⟩ : ∃ y, q[k]? = some y := ⟨_, List.getElem?_eq_getElem h9⟩
    obtain ⟨v, hv⟩ : ∃ v, (cnts g s t 0 n c)[k]? = some v := ⟨_, List.getElem?_eq_getElem (by omega)⟩
    have hyb := w3 y (List.mem_of_getElem? hy)
    have hvb := hcb v (List.mem_of_getElem? hv)
    obtain ⟨m1, m2⟩ := q0kl hyb.1 hvb.1 hvb.2
    have hms := q14o hy hv
    have hm1 := q14n w3 hcb k
    have hm2 := q14n w3 hcb (k + 1)
    simp -implicitDefEqProofs only [eR', go_sem, nodes, q0qa, intsO, evT, hy, hv, decide_eq_true (show (k : Int) < (q.length : Int) by omega), opR, Nat.reduceBEq]
    repeat (first | refine ⟨by omega, ?_⟩ | refine ⟨by rw [q0l0]; omega, ?_⟩)
    refine hn4 _ (k + 1) (Weak.o _ _ [some 1000000000, some 98] ?_ ?_) (by omega) (by omega)
    . simp -implicitDefEqProofs only [wR', Nat.reduceBEq, Nat.reduceEqDiff, ↓reduceIte, nodes, evT, q0lb h9 (show q.length <= 1000000000000 by omega), wrap64 (n := y * v) (by omega) (by omega), ← hms, wrap64 (n := q14m q (cnts g s t 0 n c) (k + 1)) (by omega) (by omega)]
    . exact ⟨⟨_, rfl, .refl _⟩, rfl, ⟨_, rfl, .refl _⟩, rfl, trivial⟩
  have hkq : k = (cnts g s t 0 n c).length := by omega
  subst hkq
  simp -implicitDefEqProofs only [eR', go_sem, nodes, q0qa, intsO, evT, decide_eq_false (show ¬ ((cnts g s t 0 n c).length : Int) < (q.length : Int) by omega), opR, Nat.reduceBEq]
  refine he4 _ _ ?_
  simp -implicitDefEqProofs only [eR', go_sem, evT]
  have hway := q0f8 hg hs ht ((.inl rfl) : (0 : Int) = 0 ∨ (0 : Int) = 1) (n := n) (a := c) (b := c) hn hc hc
  rw [← hmw] at hway
  have hwb := q154 hg (q153 hs ht ((.inl rfl) : (0 : Int) = 0 ∨ (0 : Int) = 1)).1 hc hn h2
  have hMb := q14n w3 hcb (cnts g s t 0 n c).length
  have hMd : q14l q (cnts g s t 0 n c) = q14m q (cnts g s t 0 n c) (cnts g s t 0 n c).length := rfl
  refine q006.p hway [] rfl Try.call226 ?_ ?_
  . simp -implicitDefEqProofs only [aR', go_sem]
  simp -implicitDefEqProofs only [eR', go_sem]
  generalize wayP g (q10l 0 s t) 0 c n = w at hwb hSd ⊢
  rw [← hMd]
  rw [← hMd] at hMb
  generalize q14l q (cnts g s t 0 n c) = M at hMb hRd ⊢
  generalize cnts g s t 0 n c = C at hcb hcl hMb hRd hqsl ⊢
  generalize rowR g s t 0 R i = nr at f1 f2 hRd ⊢
  generalize rowS g s t 0 Z i = nz at f3 f4 hSd ⊢
  have hnl : nr.length = r.length := by omega
  have hnz : nz.length = z.length := by omega
  have hiR : i < R.length := (List.getElem?_eq_some_iff.1 hr).1
  have hiZ : i < Z.length := (List.getElem?_eq_some_iff.1 hz).1
  refine SemC.loopR (σ := Nat) (fun k => St.of [(0, .own 1000000000), (1, .t (evT g s t)), (2, .t (.i 0)), (3, .t (.i i)), (4, .t (.i n)), (5, .t (.i c)), (16, .own 98), (25, .t (.i M)), (28, .t (.i w)), (152, .t (ints q)), (153, .t (.i q.length)), (154, .t (.i k))] [(1000000000, .box [nodes g.nd, rows g.w, rows g.v, q0qa (R.set i (mixL nr r k)), q0qa U, q0qa (Z.set i (mixL nz z k)), q0qa V]), (98, intsO C)]) (fun k => k <= q.length) (fun k => q.length - k) 0 (Weak.o _ _ [some 1000000000, some 98] ?_ ?_) (by omega) fun k hk Q5 hn5 hr5 he5 => ?_
  . simp -implicitDefEqProofs only [wR', Nat.reduceBEq, Nat.reduceEqDiff, ↓reduceIte, nodes, evT]
  . refine ⟨⟨_, rfl, ?_⟩, rfl, ⟨_, rfl, .refl _⟩, rfl, trivial⟩
    rw [q14w, q14w, q0r2 hr, q0r2 hz]; exact .refl _
  rcases Nat.lt_or_ge k q.length with h9 | h9
  . obtain ⟨y, hy⟩ : ∃ y, q[k]? = some y := ⟨_, List.getElem?_eq_getElem h9⟩
    obtain ⟨v, hv⟩ : ∃ v, C[k]? = some v := ⟨_, List.getElem?_eq_getElem (by omega)⟩
    obtain ⟨x0, hx0⟩ : ∃ x0, r[k]? = some x0 := ⟨_, List.getElem?_eq_getElem (by omega)⟩
    obtain ⟨x1, hx1⟩ : ∃ x1, z[k]? = some x1 := ⟨_, List.getElem?_eq_getElem (by omega)⟩
    have hyb := w3 y (List.mem_of_getElem? hy)
    have hvb := hcb v (List.mem_of_getElem? hv)
    have hb0 := hrb x0 (List.mem_of_getElem? hx0)
    have hb1 := hzb x1 (List.mem_of_getElem? hx1)
    have hwy : 0 <= y * w /\ y * w <= 60 * 12960000 := ⟨Int.mul_nonneg hyb.1 hwb.1, Int.mul_le_mul hyb.2 hwb.2 hwb.1 (by decide)⟩
    have hnr1 : nr[k]? = some (x0 + (60 * v - M)) := by rw [hRd]; exact q15t hx0 hv
    have hnz1 : nz[k]? = some (x1 + y * w) := by rw [hSd, Int.mul_comm y w]; exact q15v hx1 hy
    have hg1 : (mixL nr r k)[k]? = some x0 := by rw [q14t hnl (by omega)]; exact hx0
    have hg2 : (mixL nz z k)[k]? = some x1 := by rw [q14t hnz (by omega)]; exact hx1
    have hl1 : (mixL nr r k).length = r.length := q14u hnl (by omega)
    have hl2 : (mixL nz z k).length = z.length := q14u hnz (by omega)
    have hc1 : (List.map intsO (R.set i (mixL nr r k)))[i]? = some (intsO (mixL nr r k)) := by rw [List.getElem?_map, List.getElem?_set_self hiR]; rfl
    have hc2 : (List.map intsO (Z.set i (mixL nz z k)))[i]? = some (intsO (mixL nz z k)) := by rw [List.getElem?_map, List.getElem?_set_self hiZ]; rfl
    have hc3 : ((List.map intsO (R.set i (mixL nr r k))).set i T.any)[i]? = some T.any := List.getElem?_set_self (by rw [List.length_map, List.length_set]; exact hiR)
    have hc4 : ((List.map intsO (Z.set i (mixL nz z k))).set i T.any)[i]? = some T.any := List.getElem?_set_self (by rw [List.length_map, List.length_set]; exact hiZ)
    simp -implicitDefEqProofs only [eR', go_sem, nodes, q0qa, intsO, evT, hy, decide_eq_true (show (k : Int) < (q.length : Int) by omega), opR, Nat.reduceBEq]
    repeat (first | refine ⟨by omega, ?_⟩ | refine ⟨by rw [q0l0]; omega, ?_⟩)
    refine ⟨_, Weak.trans (Weak.open 1000000000 3 501 rfl rfl rfl (by decide) rfl) (Weak.open 501 i 502 rfl hc1 rfl (by decide) rfl), ?_⟩
    simp -implicitDefEqProofs only [eR', go_sem, q0qa, intsO, hg1, hc1, hc3, hl1, hv, List.length_set, opR, Nat.reduceBEq]
    repeat (first | refine ⟨by omega, ?_⟩ | refine ⟨by rw [q0l0]; omega, ?_⟩)
    refine ⟨_, Weak.trans (Weak.close1 501 i 502 rfl rfl (by decide) hc3) (Weak.trans (Weak.close1 1000000000 3 501 rfl rfl (by decide) rfl) (Weak.trans (Weak.open 1000000000 5 503 rfl rfl rfl (by decide) rfl) (Weak.open 503 i 504 rfl hc2 rfl (by decide) rfl))), ?_⟩
    simp -implicitDefEqProofs only [eR', go_sem, q0qa, intsO, hg2, hc2, hc4, hl2, hv, List.length_set, opR, Nat.reduceBEq]
    repeat (first | refine ⟨by omega, ?_⟩ | refine ⟨by rw [q0l0]; omega, ?_⟩)
    have wA : IntKind.i64.wrap (60 * v) = 60 * v := wrap64 (by omega) (by omega)
    have wB : IntKind.i64.wrap (60 * v - M) = 60 * v - M := wrap64 (by omega) (by omega)
    have wC : IntKind.i64.wrap (x0 + (60 * v - M)) = x0 + (60 * v - M) := wrap64 (by omega) (by omega)
    have wD : IntKind.i64.wrap (y * w) = y * w := wrap64 (by omega) (by omega)
    have wE : IntKind.i64.wrap (x1 + y * w) = x1 + y * w := wrap64 (by omega) (by omega)
    refine hn5 _ (k + 1) (Weak.trans (Weak.close1 503 i 504 rfl rfl (by decide) hc4) (Weak.trans (Weak.close1 1000000000 5 503 rfl rfl (by decide) rfl) (Weak.o _ _ [some 1000000000, some 98] ?_ ?_))) (by omega) (by omega)
    . simp -implicitDefEqProofs only [wR', Nat.reduceBEq, Nat.reduceEqDiff, ↓reduceIte, nodes, evT, q0lb h9 (show q.length <= 1000000000000 by omega)]
    . refine ⟨⟨_, rfl, ?_⟩, rfl, ⟨_, rfl, .refl _⟩, rfl, trivial⟩
      rw [← q14v hnl hnr1, ← q14v hnz hnz1]
      simp only [q0qa, intsO, List.map_set, List.set_set, wA, wB, wC, wD, wE, nodes, rows]
      exact .refl _
  . have hkq : k = q.length := by omega
    have m1 : mixL nr r k = nr := by rw [show k = r.length by omega]; exact q14s hnl
    have m2 : mixL nz z k = nz := by rw [show k = z.length by omega]; exact q14s hnz
    rw [m1, m2]
    simp -implicitDefEqProofs only [eR', go_sem, nodes, q0qa, intsO, evT, decide_eq_false (show ¬ (k : Int) < (q.length : Int) by omega), opR, Nat.reduceBEq]
    refine he5 _ _ ?_
    simp -implicitDefEqProofs only [eR', go_sem, q0qa, opR, Nat.reduceBEq]
set_option maxHeartbeats 2000000 in
theorem q0f5 {g : Gm} (hg : q0fl g = true) {s t : List (List Int)} (hs : q0nw g s 0) (ht : q0nw g t 1) {R Z U V : List (List Int)} {B : Int} (hR : okM g 1 B R) (hZ : okM g 1 B Z) (hB : B <= 30000000000000000) {i : Nat} (hi : i < (sets g 1).length) :
    Fun Try.prog 210 [.box [nodes g.nd, rows g.w, rows g.v, q0qa U, q0qa R, q0qa V, q0qa Z]] [.own 1000000000, .t (evT g s t), .t (.i 1), .t (.i i), .t (.i (setN g 1 i)), .t (.i (setC g 1 i))] fun o q => o = [.box [nodes g.nd, rows g.w, rows g.v, q0qa U, q0qa (R.set i (rowR g s t 1 R i)), q0qa V, q0qa (Z.set i (rowS g s t 1 Z i))]] /\ q = .tup [] := by
  obtain ⟨p1, p2, p3, p4, p5⟩ := q0fn hg
  obtain ⟨t1, t2, t3, t4⟩ := q0g0 p1
  obtain ⟨a1, a2, a3, a4, a5, a6⟩ := q15l hi
  obtain ⟨r, hr, hr', hrl, hrb⟩ := q150 hR hi
  obtain ⟨z, hz, hz', hzl, hzb⟩ := q150 hZ hi
  obtain ⟨w1, w2, w3, w4⟩ := q14r hg ((.inr rfl) : (1 : Int) = 0 ∨ (1 : Int) = 1) (q153 hs ht (.inr rfl)).1 hi
  obtain ⟨f1, f2⟩ := q15f hg hs ht (.inr rfl) hR hi
  obtain ⟨f3, f4⟩ := q15g hg hs ht (.inr rfl) hZ hi
  have hmw : wayP g (q10l 1 s t) 1 (setC g 1 i) (setN g 1 i) = wayP g (q10l 1 s t) 1 (if (1 : Int) = 0 then setC g 1 i else setC g 1 i) (setN g 1 i) := by split <;> rfl
  have hRd : rowR g s t 1 R i = updR r (cnts g s t 1 (setN g 1 i) (setC g 1 i)) (q14l ((q10l 1 s t).getD i []) (cnts g s t 1 (setN g 1 i) (setC g 1 i))) := by rw [rowR, hr']
  have hSd : rowS g s t 1 Z i = updW z ((q10l 1 s t).getD i []) (wayP g (q10l 1 s t) 1 (setC g 1 i) (setN g 1 i)) := by rw [rowS, hz']
  generalize hqq : (q10l 1 s t).getD i [] = q at w1 w2 w3 w4 hRd hSd
  generalize setN g 1 i = n at a1 a2 a4 a5 hRd hSd hmw ⊢
  generalize setC g 1 i = c at a1 a3 hRd hSd hmw ⊢
  have hn := a2
  have hc := a3
  have h2 : (g.nd.getD n nd0).p ≠ 2 := by omega
  obtain ⟨e1, e2, e3⟩ := q145 hg hn h2
  have hpk := q0on hg hn h2
  have hpa := q0om hg hn h2
  obtain ⟨x, hx⟩ : ∃ x, g.nd[n]? = some x := ⟨_, List.getElem?_eq_getElem hn⟩
  have hxd : g.nd.getD n nd0 = x := by rw [List.getD_eq_getElem?_getD, hx]; rfl
  have hxl := (q0ks (t2 _ _ hx)).2.2.2.2.2
  have hch := q0kp (t2 n _ hx)
  have hcvl := q06q g s t 1 n c
  have hcvg : ∀ (k m : Nat) (y : Int), x.ch[k]? = some y -> (cntW g s t 1 n c m)[k]? = some (cntN g s t 1 n c y.toNat m) := fun k m y h => q06p (by rw [hxd]; exact h)
  have hcv0 := q06s g s t 1 n c
  have hcvA : cntW g s t 1 n c g.w.length = cnts g s t 1 n c := rfl
  rw [hxd] at e3 a5 hcv0 hpa hpk hcvl
  have hcb := q149 hg hs ht ((.inr rfl) : (1 : Int) = 0 ∨ (1 : Int) = 1) hn h2 hc
  have hcl := q14b g s t 1 n c
  rw [hxd] at hcl
  refine q0a6 (by simp) ?_
  simp -implicitDefEqProofs only [eR', go_sem, q038, nodes, q0qa, q0kz hx, opR, Nat.reduceBEq]
  repeat (first | refine ⟨by omega, ?_⟩ | refine ⟨by rw [q0l0]; omega, ?_⟩)
  refine SemC.loopR (σ := Nat) (fun k => St.of [(0, .own 1000000000), (1, .t (evT g s t)), (2, .t (.i 1)), (3, .t (.i i)), (4, .t (.i n)), (5, .t (.i c)), (12, .t (ints x.ch)), (13, .t (.i (pwrK g.nd x.ch k))), (41, .t (ints x.ch)), (42, .t (.i x.ch.length)), (43, .t (.i k))] [(1000000000, .box [nodes g.nd, rows g.w, rows g.v, q0qa U, q0qa R, q0qa V, q0qa Z])]) (fun k => k <= x.ch.length) (fun k => x.ch.length - k) 0 (Weak.o _ _ [some 1000000000] ?_ ?_) (by omega) fun k hk Q1 hn1 hr1 he1 => ?_
  . simp -implicitDefEqProofs only [wR', Nat.reduceBEq, Nat.reduceEqDiff, ↓reduceIte, nodes, evT, show pwrK g.nd x.ch 0 = 0 from rfl]
  . exact ⟨⟨_, rfl, .refl _⟩, rfl, trivial⟩
  rcases Nat.lt_or_ge k x.ch.length with h9 | h9
  . obtain ⟨y, hy⟩ : ∃ y, x.ch[k]? = some y := ⟨_, List.getElem?_eq_getElem h9⟩
    obtain ⟨y0, y1, y2⟩ := e3 y (List.mem_of_getElem? hy)
    simp -implicitDefEqProofs only [eR', go_sem, nodes, q0qa, evT, hy, decide_eq_true (show (k : Int) < (x.ch.length : Int) by omega), opR, Nat.reduceBEq]
    repeat (first | refine ⟨by omega, ?_⟩ | refine ⟨by rw [q0l0]; omega, ?_⟩)
    have hd := q080 (q0ek t2 (by omega) g.nd.length y.toNat (by omega) y1 (by omega))
    rw [show ((y.toNat : Nat) : Int) = y by omega] at hd
    refine q006.p hd [] rfl Try.call164 ?_ ?_
    . simp -implicitDefEqProofs only [aR', go_sem]
    simp -implicitDefEqProofs only [eR', go_sem]
    refine hn1 _ (k + 1) (Weak.o _ _ [some 1000000000] ?_ ?_) (by omega) (by omega)
    . simp -implicitDefEqProofs only [wR', Nat.reduceBEq, Nat.reduceEqDiff, ↓reduceIte, nodes, evT, q0lb h9 (show x.ch.length <= 1000000000000 by omega), q0oo hy]
    . exact ⟨⟨_, rfl, .refl _⟩, rfl, trivial⟩
  have hkl : k = x.ch.length := by omega
  subst hkl
  rw [hpa]
  simp -implicitDefEqProofs only [eR', go_sem, nodes, q0qa, evT, decide_eq_false (show ¬ (x.ch.length : Int) < (x.ch.length : Int) by omega), opR, Nat.reduceBEq]
  refine he1 _ _ ?_
  simp -implicitDefEqProofs only [eR', go_sem, q0jc, opR, Nat.reduceBEq]
  repeat (first | refine ⟨by omega, ?_⟩ | refine ⟨by rw [q0l0]; omega, ?_⟩)
  refine SemC.loopR (σ := Nat) (fun o => St.of [(0, .own 1000000000), (1, .t (evT g s t)), (2, .t (.i 1)), (3, .t (.i i)), (4, .t (.i n)), (5, .t (.i c)), (12, .t (ints x.ch)), (13, .t (.i (q144 g n))), (16, .own 98), (65, .t (.i g.w.length)), (66, .t (.i o))] [(1000000000, .box [nodes g.nd, rows g.w, rows g.v, q0qa U, q0qa R, q0qa V, q0qa Z]), (98, intsO (cntW g s t 1 n c o))]) (fun o => o <= g.w.length) (fun o => g.w.length - o) 0 (Weak.o _ _ [some 1000000000, some 59] ?_ ?_) (by omega) fun o ho Q2 hn2 hr2 he2 => ?_
  . simp -implicitDefEqProofs only [wR', Nat.reduceBEq, Nat.reduceEqDiff, ↓reduceIte, nodes, evT]
  . refine ⟨⟨_, rfl, .refl _⟩, rfl, ⟨_, rfl, ?_⟩, rfl, trivial⟩
    rw [hcv0, intsO, List.map_replicate]; exact .refl _
  rcases Nat.lt_or_ge o g.w.length with h8 | h8
  . obtain ⟨rw0, zw, hr0, hzw, hz0, hz9⟩ := q0cn hg h8 hc
    have hrwl : rw0.length = g.w.length := ((q0js.1 p3).2 rw0 (List.mem_of_getElem? hr0)).1
    have hwz : wAt g 1 c o = zw := by
      unfold wAt
      simp only [List.getD_eq_getElem?_getD, hr0, hzw, Option.getD_some, show ((1 : Int) = 0) = False by simp, if_false]
    have hot := (q153 hs ht ((.inr rfl) : (1 : Int) = 0 ∨ (1 : Int) = 1)).2
    have hr1' := q158 (c := c) hg hs ht ((.inr rfl) : (1 : Int) = 0 ∨ (1 : Int) = 1) hn h8
    have hpw := q157 (p := (wayL g.nd n).length) (by omega)
    have hcall := q0f8 hg hs ht ((.inl rfl) : (0 : Int) = 0 ∨ (0 : Int) = 1) (n := n) (a := o) (b := c) hn (by omega) (by omega)
    rw [show (if (0 : Int) = 0 then o else c) = o from rfl] at hcall
    have hrw : (-1) * zw * wayP g (q10l 0 s t) 0 o n = rchW g s t 1 n c o := by rw [rchW, hwz]; rfl
    simp -implicitDefEqProofs only [eR', go_sem, nodes, q0qa, intsO, evT, hr0, hzw, decide_eq_true (show (o : Int) < (g.w.length : Int) by omega), show ((0 : Int) == 1) = false from rfl, show ((1 : Int) == 1) = true from rfl, show IntKind.i64.wrap (1 - 0) = 1 from rfl, show IntKind.i64.wrap (1 - 1) = 0 from rfl, opR, Nat.reduceBEq]
    repeat (first | refine ⟨by omega, ?_⟩ | refine ⟨by rw [q0l0]; omega, ?_⟩)
    refine q002.ref hcall [] [] rfl Try.call226 (by simp) ?_ (by simp) (fun e R' hR => ?_) (.inl rfl) ?_
    . simp -implicitDefEqProofs only [sR', Nat.reduceEqDiff, ↓reduceIte]
    . simp -implicitDefEqProofs only [aR', go_sem]
    simp -implicitDefEqProofs only [cR', go_sem, wrap64 (n := (-1) * zw) (by omega) (by omega), hrw, wrap64 (n := rchW g s t 1 n c o) (by omega) (by omega)]
    refine ⟨⟨fun h5 => ?_, fun h5 => ?_⟩, q09v.refl _ _ _⟩
    . have h5 : rchW g s t 1 n c o = 0 := by simpa using h5
      refine hn2 _ (o + 1) (Weak.o _ _ [some 1000000000, some 98] ?_ ?_) (by omega) (by omega)
      . simp -implicitDefEqProofs only [wR', Nat.reduceBEq, Nat.reduceEqDiff, ↓reduceIte, nodes, evT, q0lb h8 (by omega)]
      . refine ⟨⟨_, rfl, .refl _⟩, rfl, ⟨_, rfl, ?_⟩, rfl, trivial⟩
        rw [q06r h5]; exact .refl _
    . refine SemC.loopR (σ := Nat) (fun k => St.of [(0, .own 1000000000), (1, .t (evT g s t)), (2, .t (.i 1)), (3, .t (.i i)), (4, .t (.i n)), (5, .t (.i c)), (12, .t (ints x.ch)), (13, .t (.i (q144 g n))), (16, .own 98), (18, .t (.i o)), (19, .t (.i c)), (21, .t (.i (rchW g s t 1 n c o))), (65, .t (.i g.w.length)), (66, .t (.i o)), (98, .t (ints x.ch)), (99, .t (.i x.ch.length)), (100, .t (.i k))] [(1000000000, .box [nodes g.nd, rows g.w, rows g.v, q0qa U, q0qa R, q0qa V, q0qa Z]), (98, intsO (mixL (cntW g s t 1 n c (o + 1)) (cntW g s t 1 n c o) k))]) (fun k => k <= x.ch.length) (fun k => x.ch.length - k) 0 (Weak.o _ _ [some 1000000000, some 98] ?_ ?_) (by omega) fun k hk Q3 hn3 hr3 he3 => ?_
      . simp -implicitDefEqProofs only [wR', Nat.reduceBEq, Nat.reduceEqDiff, ↓reduceIte, nodes, evT]
      . refine ⟨⟨_, rfl, .refl _⟩, rfl, ⟨_, rfl, ?_⟩, rfl, trivial⟩
        rw [q14w]; exact .refl _
      have hcl1 : (cntW g s t 1 n c (o + 1)).length = (cntW g s t 1 n c o).length := by rw [q06q, q06q]
      have hcl0 : (cntW g s t 1 n c o).length = x.ch.length := by rw [q06q, hxd]
      rcases Nat.lt_or_ge k x.ch.length with h7 | h7
      . obtain ⟨y, hy⟩ : ∃ y, x.ch[k]? = some y := ⟨_, List.getElem?_eq_getElem h7⟩
        obtain ⟨y0, y1, y2⟩ := e3 y (List.mem_of_getElem? hy)
        have hym : y ∈ (g.nd.getD n nd0).ch := by rw [hxd]; exact List.mem_of_getElem? hy
        have hsu := q148 g s t 1 n c y.toNat o
        have k1 := q147 hg hs ht ((.inr rfl) : (1 : Int) = 0 ∨ (1 : Int) = 1) hn h2 hc hym (m := o) (by omega)
        have k2 := q147 hg hs ht ((.inr rfl) : (1 : Int) = 0 ∨ (1 : Int) = 1) hn h2 hc hym (m := o + 1) (by omega)
        have k3 := q146 hg hs ht ((.inr rfl) : (1 : Int) = 0 ∨ (1 : Int) = 1) hn h2 hc h8 hym
        have hval := q0xc (q0f7 hg hs ht h8 hc g.nd.length y.toNat (q144 g n) (by omega) y1 y2 (by omega))
        rw [show ((y.toNat : Nat) : Int) = y by omega] at hval
        have hcf : rchW g s t 1 n c o * val g s t g.nd.length y.toNat o c (q144 g n) = cntF g s t 1 n c y.toNat o := rfl
        have hg1 : (mixL (cntW g s t 1 n c (o + 1)) (cntW g s t 1 n c o) k)[k]? = some (cntN g s t 1 n c y.toNat o) := by
          rw [q14t hcl1 (by omega)]; exact hcvg k o y hy
        have hml : (mixL (cntW g s t 1 n c (o + 1)) (cntW g s t 1 n c o) k).length = x.ch.length := by rw [q14u hcl1 (by omega), hcl0]
        simp -implicitDefEqProofs only [eR', go_sem, nodes, q0qa, intsO, evT, hy, hg1, hml, decide_eq_true (show (k : Int) < (x.ch.length : Int) by omega), opR, Nat.reduceBEq]
        repeat (first | refine ⟨by omega, ?_⟩ | refine ⟨by rw [q0l0]; omega, ?_⟩)
        refine q002.ref hval [] [] rfl Try.call180 (by simp) ?_ (by simp) (fun e R' hR => ?_) (.inl rfl) ?_
        . simp -implicitDefEqProofs only [sR', Nat.reduceEqDiff, ↓reduceIte]
        . simp -implicitDefEqProofs only [aR', go_sem]
        simp -implicitDefEqProofs only [cR', go_sem, hml, hcf, wrap64 (n := cntF g s t 1 n c y.toNat o) (by omega) (by omega), ← hsu, wrap64 (n := cntN g s t 1 n c y.toNat (o + 1)) (by omega) (by omega)]
        refine ⟨⟨by omega, by omega, by omega, hn3 _ (k + 1) (Weak.o _ _ [some 1000000000, some 98] ?_ ?_) (by omega) (by omega)⟩, q09v.refl _ _ _⟩
        . simp -implicitDefEqProofs only [wR', Nat.reduceBEq, Nat.reduceEqDiff, ↓reduceIte, nodes, evT, q0lb h7 (show x.ch.length <= 1000000000000 by omega)]
        . refine ⟨⟨_, rfl, .refl _⟩, rfl, ⟨_, rfl, ?_⟩, rfl, trivial⟩
          rw [← q14v hcl1 (hcvg k (o + 1) y hy), intsO, List.map_set]; exact .refl _
      . have hall : mixL (cntW g s t 1 n c (o + 1)) (cntW g s t 1 n c o) k = cntW g s t 1 n c (o + 1) := by
          have := q14s hcl1
          rw [hcl0] at this
          rw [show k = x.ch.length by omega]; exact this
        rw [hall]
        simp -implicitDefEqProofs only [eR', go_sem, nodes, q0qa, intsO, evT, decide_eq_false (show ¬ (k : Int) < (x.ch.length : Int) by omega), opR, Nat.reduceBEq]
        refine he3 _ _ ?_
        simp -implicitDefEqProofs only [eR', go_sem]
        refine hn2 _ (o + 1) (Weak.o _ _ [some 1000000000, some 98] ?_ ?_) (by omega) (by omega)
        . simp -implicitDefEqProofs only [wR', Nat.reduceBEq, Nat.reduceEqDiff, ↓reduceIte, nodes, evT, q0lb h8 (by omega)]
        . exact ⟨⟨_, rfl, .refl _⟩, rfl, ⟨_, rfl, .refl _⟩, rfl, trivial⟩
  have hol : o = g.w.length := by omega
  subst hol
  rw [hcvA]
  simp -implicitDefEqProofs only [eR', go_sem, nodes, q0qa, intsO, evT, decide_eq_false (show ¬ (g.w.length : Int) < (g.w.length : Int) by omega), opR, Nat.reduceBEq]
  refine he2 _ _ ?_
  have hqi : (q10l 1 s t)[i]? = some q := w1
  have hqs : t[i]? = some q := hqi
  have hqsl := (List.getElem?_eq_some_iff.1 hqs).1
  simp -implicitDefEqProofs only [eR', go_sem, evT, hqs, opR, Nat.reduceBEq]
  repeat (first | refine ⟨by omega, ?_⟩ | refine ⟨by rw [q0l0]; omega, ?_⟩)
  refine SemC.loopR (σ := Nat) (fun k => St.of [(0, .own 1000000000), (1, .t (evT g s t)), (2, .t (.i 1)), (3, .t (.i i)), (4, .t (.i n)), (5, .t (.i c)), (16, .own 98), (24, .t (ints q)), (25, .t (.i (q14m q (cnts g s t 1 n c) k))), (130, .t (ints q)), (131, .t (.i q.length)), (132, .t (.i k))] [(1000000000, .box [nodes g.nd, rows g.w, rows g.v, q0qa U, q0qa R, q0qa V, q0qa Z]), (98, intsO (cnts g s t 1 n c))]) (fun k => k <= q.length) (fun k => q.length - k) 0 (Weak.o _ _ [some 1000000000, some 98] ?_ ?_) (by omega) fun k hk Q4 hn4 hr4 he4 => ?_
  . simp -implicitDefEqProofs only [wR', Nat.reduceBEq, Nat.reduceEqDiff, ↓reduceIte, nodes, evT, q14p]
  . exact ⟨⟨_, rfl, .refl _⟩, rfl, ⟨_, rfl, .refl _⟩, rfl, trivial⟩
  rcases Nat.lt_or_ge k q.length with h9 | h9
  . obtain ⟨y, hy⟩ : ∃ y, q[k]? = some y := ⟨_, List.getElem?_eq_getElem h9⟩
    obtain ⟨v, hv⟩ : ∃ v, (cnts g s t 1 n c)[k]? = some v := ⟨_, List.getElem?_eq_getElem (by omega)⟩
    have hyb := w3 y (List.mem_of_getElem? hy)
    have hvb := hcb v (List.mem_of_getElem? hv)
    obtain ⟨m1, m2⟩ := q0kl hyb.1 hvb.1 hvb.2
    have hms := q14o hy hv
    have hm1 := q14n w3 hcb k
    have hm2 := q14n w3 hcb (k + 1)
    simp -implicitDefEqProofs only [eR', go_sem, nodes, q0qa, intsO, evT, hy, hv, decide_eq_true (show (k : Int) < (q.length : Int) by omega), opR, Nat.reduceBEq]
    repeat (first | refine ⟨by omega, ?_⟩ | refine ⟨by rw [q0l0]; omega, ?_⟩)
    refine hn4 _ (k + 1) (Weak.o _ _ [some 1000000000, some 98] ?_ ?_) (by omega) (by omega)
    . simp -implicitDefEqProofs only [wR', Nat.reduceBEq, Nat.reduceEqDiff, ↓reduceIte, nodes, evT, q0lb h9 (show q.length <= 1000000000000 by omega), wrap64 (n := y * v) (by omega) (by omega), ← hms, wrap64 (n := q14m q (cnts g s t 1 n c) (k + 1)) (by omega) (by omega)]
    . exact ⟨⟨_, rfl, .refl _⟩, rfl, ⟨_, rfl, .refl _⟩, rfl, trivial⟩
  have hkq : k = (cnts g s t 1 n c).length := by omega
  subst hkq
  simp -implicitDefEqProofs only [eR', go_sem, nodes, q0qa, intsO, evT, decide_eq_false (show ¬ ((cnts g s t 1 n c).length : Int) < (q.length : Int) by omega), opR, Nat.reduceBEq]
  refine he4 _ _ ?_
  simp -implicitDefEqProofs only [eR', go_sem, evT]
  have hway := q0f8 hg hs ht ((.inr rfl) : (1 : Int) = 0 ∨ (1 : Int) = 1) (n := n) (a := c) (b := c) hn hc hc
  rw [← hmw] at hway
  have hwb := q154 hg (q153 hs ht ((.inr rfl) : (1 : Int) = 0 ∨ (1 : Int) = 1)).1 hc hn h2
  have hMb := q14n w3 hcb (cnts g s t 1 n c).length
  have hMd : q14l q (cnts g s t 1 n c) = q14m q (cnts g s t 1 n c) (cnts g s t 1 n c).length := rfl
  refine q006.p hway [] rfl Try.call226 ?_ ?_
  . simp -implicitDefEqProofs only [aR', go_sem]
  simp -implicitDefEqProofs only [eR', go_sem]
  generalize wayP g (q10l 1 s t) 1 c n = w at hwb hSd ⊢
  rw [← hMd]
  rw [← hMd] at hMb
  generalize q14l q (cnts g s t 1 n c) = M at hMb hRd ⊢
  generalize cnts g s t 1 n c = C at hcb hcl hMb hRd hqsl ⊢
  generalize rowR g s t 1 R i = nr at f1 f2 hRd ⊢
  generalize rowS g s t 1 Z i = nz at f3 f4 hSd ⊢
  have hnl : nr.length = r.length := by omega
  have hnz : nz.length = z.length := by omega
  have hiR : i < R.length := (List.getElem?_eq_some_iff.1 hr).1
  have hiZ : i < Z.length := (List.getElem?_eq_some_iff.1 hz).1
  refine SemC.loopR (σ := Nat) (fun k => St.of [(0, .own 1000000000), (1, .t (evT g s t)), (2, .t (.i 1)), (3, .t (.i i)), (4, .t (.i n)), (5, .t (.i c)), (16, .own 98), (25, .t (.i M)), (28, .t (.i w)), (152, .t (ints q)), (153, .t (.i q.length)), (154, .t (.i k))] [(1000000000, .box [nodes g.nd, rows g.w, rows g.v, q0qa U, q0qa (R.set i (mixL nr r k)), q0qa V, q0qa (Z.set i (mixL nz z k))]), (98, intsO C)]) (fun k => k <= q.length) (fun k => q.length - k) 0 (Weak.o _ _ [some 1000000000, some 98] ?_ ?_) (by omega) fun k hk Q5 hn5 hr5 he5 => ?_
  . simp -implicitDefEqProofs only [wR', Nat.reduceBEq, Nat.reduceEqDiff, ↓reduceIte, nodes, evT]
  . refine ⟨⟨_, rfl, ?_⟩, rfl, ⟨_, rfl, .refl _⟩, rfl, trivial⟩
    rw [q14w, q14w, q0r2 hr, q0r2 hz]; exact .refl _
  rcases Nat.lt_or_ge k q.length with h9 | h9
  . obtain ⟨y, hy⟩ : ∃ y, q[k]? = some y := ⟨_, List.getElem?_eq_getElem h9⟩
    obtain ⟨v, hv⟩ : ∃ v, C[k]? = some v := ⟨_, List.getElem?_eq_getElem (by omega)⟩
    obtain ⟨x0, hx0⟩ : ∃ x0, r[k]? = some x0 := ⟨_, List.getElem?_eq_getElem (by omega)⟩
    obtain ⟨x1, hx1⟩ : ∃ x1, z[k]? = some x1 := ⟨_, List.getElem?_eq_getElem (by omega)⟩
    have hyb := w3 y (List.mem_of_getElem? hy)
    have hvb := hcb v (List.mem_of_getElem? hv)
    have hb0 := hrb x0 (List.mem_of_getElem? hx0)
    have hb1 := hzb x1 (List.mem_of_getElem? hx1)
    have hwy : 0 <= y * w /\ y * w <= 60 * 12960000 := ⟨Int.mul_nonneg hyb.1 hwb.1, Int.mul_le_mul hyb.2 hwb.2 hwb.1 (by decide)⟩
    have hnr1 : nr[k]? = some (x0 + (60 * v - M)) := by rw [hRd]; exact q15t hx0 hv
    have hnz1 : nz[k]? = some (x1 + y * w) := by rw [hSd, Int.mul_comm y w]; exact q15v hx1 hy
    have hg1 : (mixL nr r k)[k]? = some x0 := by rw [q14t hnl (by omega)]; exact hx0
    have hg2 : (mixL nz z k)[k]? = some x1 := by rw [q14t hnz (by omega)]; exact hx1
    have hl1 : (mixL nr r k).length = r.length := q14u hnl (by omega)
    have hl2 : (mixL nz z k).length = z.length := q14u hnz (by omega)
    have hc1 : (List.map intsO (R.set i (mixL nr r k)))[i]? = some (intsO (mixL nr r k)) := by rw [List.getElem?_map, List.getElem?_set_self hiR]; rfl
    have hc2 : (List.map intsO (Z.set i (mixL nz z k)))[i]? = some (intsO (mixL nz z k)) := by rw [List.getElem?_map, List.getElem?_set_self hiZ]; rfl
    have hc3 : ((List.map intsO (R.set i (mixL nr r k))).set i T.any)[i]? = some T.any := List.getElem?_set_self (by rw [List.length_map, List.length_set]; exact hiR)
    have hc4 : ((List.map intsO (Z.set i (mixL nz z k))).set i T.any)[i]? = some T.any := List.getElem?_set_self (by rw [List.length_map, List.length_set]; exact hiZ)
    simp -implicitDefEqProofs only [eR', go_sem, nodes, q0qa, intsO, evT, hy, decide_eq_true (show (k : Int) < (q.length : Int) by omega), opR, Nat.reduceBEq]
    repeat (first | refine ⟨by omega, ?_⟩ | refine ⟨by rw [q0l0]; omega, ?_⟩)
    refine ⟨_, Weak.trans (Weak.open 1000000000 4 501 rfl rfl rfl (by decide) rfl) (Weak.open 501 i 502 rfl hc1 rfl (by decide) rfl), ?_⟩
    simp -implicitDefEqProofs only [eR', go_sem, q0qa, intsO, hg1, hc1, hc3, hl1, hv, List.length_set, opR, Nat.reduceBEq]
    repeat (first | refine ⟨by omega, ?_⟩ | refine ⟨by rw [q0l0]; omega, ?_⟩)
    refine ⟨_, Weak.trans (Weak.close1 501 i 502 rfl rfl (by decide) hc3) (Weak.trans (Weak.close1 1000000000 4 501 rfl rfl (by decide) rfl) (Weak.trans (Weak.open 1000000000 6 503 rfl rfl rfl (by decide) rfl) (Weak.open 503 i 504 rfl hc2 rfl (by decide) rfl))), ?_⟩
    simp -implicitDefEqProofs only [eR', go_sem, q0qa, intsO, hg2, hc2, hc4, hl2, hv, List.length_set, opR, Nat.reduceBEq]
    repeat (first | refine ⟨by omega, ?_⟩ | refine ⟨by rw [q0l0]; omega, ?_⟩)
    have wA : IntKind.i64.wrap (60 * v) = 60 * v := wrap64 (by omega) (by omega)
    have wB : IntKind.i64.wrap (60 * v - M) = 60 * v - M := wrap64 (by omega) (by omega)
    have wC : IntKind.i64.wrap (x0 + (60 * v - M)) = x0 + (60 * v - M) := wrap64 (by omega) (by omega)
    have wD : IntKind.i64.wrap (y * w) = y * w := wrap64 (by omega) (by omega)
    have wE : IntKind.i64.wrap (x1 + y * w) = x1 + y * w := wrap64 (by omega) (by omega)
    refine hn5 _ (k + 1) (Weak.trans (Weak.close1 503 i 504 rfl rfl (by decide) hc4) (Weak.trans (Weak.close1 1000000000 6 503 rfl rfl (by decide) rfl) (Weak.o _ _ [some 1000000000, some 98] ?_ ?_))) (by omega) (by omega)
    . simp -implicitDefEqProofs only [wR', Nat.reduceBEq, Nat.reduceEqDiff, ↓reduceIte, nodes, evT, q0lb h9 (show q.length <= 1000000000000 by omega)]
    . refine ⟨⟨_, rfl, ?_⟩, rfl, ⟨_, rfl, .refl _⟩, rfl, trivial⟩
      rw [← q14v hnl hnr1, ← q14v hnz hnz1]
      simp only [q0qa, intsO, List.map_set, List.set_set, wA, wB, wC, wD, wE, nodes, rows]
      exact .refl _
  . have hkq : k = q.length := by omega
    have m1 : mixL nr r k = nr := by rw [show k = r.length by omega]; exact q14s hnl
    have m2 : mixL nz z k = nz := by rw [show k = z.length by omega]; exact q14s hnz
    rw [m1, m2]
    simp -implicitDefEqProofs only [eR', go_sem, nodes, q0qa, intsO, evT, decide_eq_false (show ¬ (k : Int) < (q.length : Int) by omega), opR, Nat.reduceBEq]
    refine he5 _ _ ?_
    simp -implicitDefEqProofs only [eR', go_sem, q0qa, opR, Nat.reduceBEq]
end
theorem q0kc {α : Type} {new old : List α} (h : new.length = old.length) {i : Nat} (hi : i <= old.length) (j : Nat) : (mixL new old i)[j]? = if j < i then new[j]? else old[j]? := by
  unfold mixL
  have hl : (new.take i).length = i := by rw [List.length_take]; omega
  split
  . rename_i hj
    rw [List.getElem?_append_left (by omega), List.getElem?_take, if_pos hj]
  . rename_i hj
    rw [List.getElem?_append_right (by omega), hl, List.getElem?_drop]
    congr 1; omega
theorem q0m7 {g : Gm} {pl B B' : Int} {m : List (List Int)} (h : okM g pl B m) (hB : B <= B') : okM g pl B' m := ⟨h.1, fun i r hr => ⟨(h.2 i r hr).1, fun x hx => by have := (h.2 i r hr).2 x hx; omega⟩⟩
theorem q0m8 {g : Gm} {pl B : Int} {new old : List (List Int)} (h1 : okM g pl B new) (h2 : okM g pl B old) {i : Nat} (hi : i <= (sets g pl).length) : okM g pl B (mixL new old i) := by
  have hl : new.length = old.length := by rw [h1.1, h2.1]
  refine ⟨by rw [q14u hl (by rw [h2.1]; exact hi), h2.1], fun j r hr => ?_⟩
  rw [q0kc hl (by rw [h2.1]; exact hi)] at hr
  split at hr
  . exact h1.2 j r hr
  . exact h2.2 j r hr
theorem q0kd {new old : List (List Int)} (h : new.length = old.length) {i : Nat} (hi : i <= old.length) : (mixL new old i).getD i [] = old.getD i [] := by
  rw [List.getD_eq_getElem?_getD, List.getD_eq_getElem?_getD, q0kc h hi, if_neg (by omega)]
theorem q0q3 (g : Gm) (s t : List (List Int)) (pl : Int) {new old : List (List Int)} (h : new.length = old.length) {i : Nat} (hi : i <= old.length) : rowR g s t pl (mixL new old i) i = rowR g s t pl old i := by rw [rowR, rowR, q0kd h hi]
theorem q0q4 (g : Gm) (s t : List (List Int)) (pl : Int) {new old : List (List Int)} (h : new.length = old.length) {i : Nat} (hi : i <= old.length) : rowS g s t pl (mixL new old i) i = rowS g s t pl old i := by rw [rowS, rowS, q0kd h hi]
theorem q0le (g : Gm) (s t : List (List Int)) (pl : Int) (R : List (List Int)) : (q14y g s t pl R).length = (sets g pl).length := by simp [q14y]
theorem q0lj (g : Gm) (s t : List (List Int)) (pl : Int) (R : List (List Int)) : (q14z g s t pl R).length = (sets g pl).length := by simp [q14z]
theorem q0ld {g : Gm} {s t : List (List Int)} {pl : Int} {R : List (List Int)} {i : Nat} (h : i < (sets g pl).length) : (q14y g s t pl R)[i]? = some (rowR g s t pl R i) := by simp [q14y, h]
theorem q0li {g : Gm} {s t : List (List Int)} {pl : Int} {R : List (List Int)} {i : Nat} (h : i < (sets g pl).length) : (q14z g s t pl R)[i]? = some (rowS g s t pl R i) := by simp [q14z, h]
section
attribute [-go_sem] q0i5 q0id fldC lenC idxC q0ip q0lp
theorem q0ej (g : Gm) (x : RS) {B : Int} (h0 : runL B x.r0) (h1 : runL B x.r1) (hB : B < 9223372036854775808) : Fun Try.prog 112 [] [.t (.pin [.sh 5 (chunk q0lu g.nd), .sh 1 (g.w.map ints), .sh 1 (g.v.map ints), .sh 1 (x.r0.map ints), .sh 1 (x.r1.map ints), .sh 1 (x.s0.map ints), .sh 1 (x.s1.map ints)] 0)] fun o r => o = [] /\ r = .tup [.agg [.i 0, .arr 1 ((stM x.r0).map intsO)], .agg [.i 1, .arr 1 ((stM x.r1).map intsO)]] := by
  refine q0a4 (by simp) ?_
  simp -implicitDefEqProofs only [eR', go_sem, q036, opR, Nat.reduceBEq]
  repeat (first | refine ⟨by omega, ?_⟩ | refine ⟨by rw [q0l0]; omega, ?_⟩)
  refine q000.res (q0f0 0 x.r0 h0 hB) [] rfl Try.call174 (fun e R' hR => ?_) (.inl rfl) ?_
  . simp -implicitDefEqProofs only [aR', go_sem]
  simp -implicitDefEqProofs only [cR', go_sem, opR, Nat.reduceBEq]
  repeat (first | refine ⟨by omega, ?_⟩ | refine ⟨by rw [q0l0]; omega, ?_⟩)
  refine q000.res (q0f0 1 x.r1 h1 hB) [] rfl Try.call174 (fun e R' hR => ?_) (.inl rfl) ?_
  . simp -implicitDefEqProofs only [aR', go_sem]
  simp -implicitDefEqProofs only [cR', go_sem, opR, Nat.reduceBEq]
theorem q0eh (g : Gm) (x : RS) {B : Int} (h0 : runL B x.s0) (h1 : runL B x.s1) (hB : B < 9223372036854775808) : Fun Try.prog 113 [] [.t (.pin [.sh 5 (chunk q0lu g.nd), .sh 1 (g.w.map ints), .sh 1 (g.v.map ints), .sh 1 (x.r0.map ints), .sh 1 (x.r1.map ints), .sh 1 (x.s0.map ints), .sh 1 (x.s1.map ints)] 0)] fun o r => o = [] /\ r = .tup [.agg [.i 0, .arr 1 ((stM x.s0).map intsO)], .agg [.i 1, .arr 1 ((stM x.s1).map intsO)]] := by
  refine q0a3 (by simp) ?_
  simp -implicitDefEqProofs only [eR', go_sem, q035, opR, Nat.reduceBEq]
  repeat (first | refine ⟨by omega, ?_⟩ | refine ⟨by rw [q0l0]; omega, ?_⟩)
  refine q000.res (q0f0 0 x.s0 h0 hB) [] rfl Try.call174 (fun e R' hR => ?_) (.inl rfl) ?_
  . simp -implicitDefEqProofs only [aR', go_sem]
  simp -implicitDefEqProofs only [cR', go_sem, opR, Nat.reduceBEq]
  repeat (first | refine ⟨by omega, ?_⟩ | refine ⟨by rw [q0l0]; omega, ?_⟩)
  refine q000.res (q0f0 1 x.s1 h1 hB) [] rfl Try.call174 (fun e R' hR => ?_) (.inl rfl) ?_
  . simp -implicitDefEqProofs only [aR', go_sem]
  simp -implicitDefEqProofs only [cR', go_sem, opR, Nat.reduceBEq]
def itS (g : Gm) (s t : List (List Int)) (x : RS) : Nat -> T
  | 0 => .box [nodes g.nd, rows g.w, rows g.v, q0qa x.r0, q0qa x.r1, q0qa x.s0, q0qa x.s1]
  | 1 => .box [nodes g.nd, rows g.w, rows g.v, q0qa (q14y g s t 0 x.r0), q0qa x.r1, q0qa (q14z g s t 0 x.s0), q0qa x.s1]
  | _ => .box [nodes g.nd, rows g.w, rows g.v, q0qa (q14y g s t 0 x.r0), q0qa (q14y g s t 1 x.r1), q0qa (q14z g s t 0 x.s0), q0qa (q14z g s t 1 x.s1)]
theorem q07s (m m' : List (List Int)) : (T.tup [.agg [.i 0, .arr 1 (m.map intsO)], .agg [.i 1, .arr 1 (m'.map intsO)]]).noSh := ⟨⟨trivial, q0qb _, trivial⟩, ⟨trivial, q0qb _, trivial⟩, trivial⟩
set_option maxHeartbeats 2000000 in
theorem q0ep (g : Gm) (hg : q0fl g = true) (x : RS) {n : Nat} (hn : n <= 900) (h : okRS g n x) : Fun Try.prog 171 [rsB g x] [.own 1000000000] fun o r => o = [rsB g (q15q g x)] /\ r = .tup [] := by
  obtain ⟨p1, p2, p3, p4, p5⟩ := q0fn hg
  obtain ⟨t1, t2, t3, t4⟩ := q0g0 p1
  obtain ⟨k0, k1, _, _⟩ := q152 hg (by omega) h
  have k0 := q0nx k0
  have k1 := q0nx k1
  have w1 : IntKind.i64.wrap 1 = 1 := rfl
  have w2' : IntKind.i64.wrap (1 + 1) = 2 := rfl
  refine q0a5 (by simp) ?_
  simp -implicitDefEqProofs only [eR', go_sem, q037, rsB, nodes, q0qa, opR, Nat.reduceBEq]
  have hq := q0ej g x (q0m9 hg (.inl rfl) h.1) (q0m9 hg (.inr rfl) h.2.1) (by omega)
  refine q006.res hq [1000000000] rfl Try.call112 ?_ (.inr (q07s _ _)) ?_
  . simp -implicitDefEqProofs only [aR', go_sem, T.toShL.eq_1, T.toShL.eq_2, q0vg]
  simp -implicitDefEqProofs only [cR', go_sem, opR, Nat.reduceBEq]
  refine ⟨_, Weak.trans (Weak.share 2 rfl) (Weak.trans (Weak.share 3 rfl) (Weak.o [(0, .own 1000000000), (2, .t (.pin [.i 0, rows (stM x.r0)] 0)), (3, .t (.pin [.i 1, rows (stM x.r1)] 0))] [(1000000000, .box [nodes g.nd, rows g.w, rows g.v, q0qa x.r0, q0qa x.r1, q0qa x.s0, q0qa x.s1])] [some 1000000000] ?_ ?_)), ?_⟩
  . simp -implicitDefEqProofs only [wR', Nat.reduceBEq, Nat.reduceEqDiff, ↓reduceIte, q0rg, T.toSh, T.toShL, q0vg, nodes, q0qa]
  . exact ⟨⟨_, rfl, .refl _⟩, rfl, trivial⟩
  have hE := q0l4 g (0, stM x.r0) (1, stM x.r1) hg
  have hstep : q15q g x = ⟨q14y g (stM x.r0) (stM x.r1) 0 x.r0, q14y g (stM x.r0) (stM x.r1) 1 x.r1, q14z g (stM x.r0) (stM x.r1) 0 x.s0, q14z g (stM x.r0) (stM x.r1) 1 x.s1⟩ := rfl
  rw [hstep]
  simp only [evO, nodes, rows, intsO] at hE
  generalize stM x.r0 = s at k0 hE ⊢
  generalize stM x.r1 = t at k1 hE ⊢
  simp -implicitDefEqProofs only [eR', go_sem, nodes, q0qa, opR, Nat.reduceBEq]
  refine q000.res hE [] rfl Try.call179 (fun e R' hR => ?_) (.inl rfl) ?_
  . simp -implicitDefEqProofs only [aR', go_sem]
  simp -implicitDefEqProofs only [cR', go_sem, opR, Nat.reduceBEq]
  refine ⟨_, Weak.share 19 rfl, ?_⟩
  refine SemC.loopR (σ := Nat) (fun q => St.of [(0, .own 1000000000), (4, .t (evT g s t)), (20, .t (.i q))] [(1000000000, itS g s t x q)]) (fun q => q <= 2) (fun q => 2 - q) 0 (Weak.o _ _ [some 1000000000] ?_ ?_) (by omega) fun q hq R hn hr he => ?_
  . simp -implicitDefEqProofs only [wR', Nat.reduceBEq, Nat.reduceEqDiff, ↓reduceIte, q0rg, T.toSh, T.toShL, q0vg, q0vf, nodes, evT]
  . exact ⟨⟨_, rfl, .refl _⟩, rfl, trivial⟩
  . match q, hq with
    | 0, _ =>
      have hsl := q15m hg 0
      have nR := q0le g s t 0 x.r0
      have nZ := q0lj g s t 0 x.s0
      have lR : x.r0.length = (sets g 0).length := h.1.1
      have lZ : x.s0.length = (sets g 0).length := h.2.2.1.1
      have oR : okM g 0 (n * 30000000000000 + 30000000000000) (q14y g s t 0 x.r0) := q151 fun i hi => q15f hg k0 k1 (.inl rfl : (0 : Int) = 0 ∨ (0 : Int) = 1) h.1 hi
      have oZ : okM g 0 (n * 30000000000000 + 30000000000000) (q14z g s t 0 x.s0) := q151 fun i hi => q15g hg k0 k1 (.inl rfl : (0 : Int) = 0 ∨ (0 : Int) = 1) h.2.2.1 hi
      simp -implicitDefEqProofs only [eR', go_sem, itS, nodes, q0qa, decide_eq_true (show (0 : Int) < 2 by omega), Int.natCast_zero, Int.cast_ofNat_Int, opR, Nat.reduceBEq]
      have hp := q0fd g 0 t1.2 p2.2
      simp only [q0qa] at hp
      refine q006.res hp [] rfl Try.call152 ?_ (.inl rfl) ?_
      . simp -implicitDefEqProofs only [aR', go_sem]
      simp -implicitDefEqProofs only [cR', go_sem]
      refine SemC.loopR (σ := Nat) (fun i => St.of [(0, .own 1000000000), (4, .t (evT g s t)), (5, .t (.i 0)), (20, .t (.i 0)), (28, .t (rows (sets g 0))), (29, .t (.i (sets g 0).length)), (30, .t (.i i))] [(1000000000, .box [nodes g.nd, rows g.w, rows g.v, q0qa (mixL (q14y g s t 0 x.r0) x.r0 i), q0qa x.r1, q0qa (mixL (q14z g s t 0 x.s0) x.s0 i), q0qa x.s1])]) (fun i => i <= (sets g 0).length) (fun i => (sets g 0).length - i) 0 (Weak.trans (Weak.share 28 rfl) (Weak.o _ _ [some 1000000000] ?_ ?_)) (by simp) fun i hi R2 hn2 hr2 he2 => ?_
      . simp -implicitDefEqProofs only [wR', Nat.reduceBEq, Nat.reduceEqDiff, ↓reduceIte, q0rg, T.toSh, q0vg, nodes, evT]
      . refine ⟨⟨_, rfl, ?_⟩, rfl, trivial⟩
        rw [q14w, q14w]; exact .refl _
      rcases Nat.lt_or_ge i (sets g 0).length with h9 | h9
      . obtain ⟨a1, a2, a3, a4, a5, a6⟩ := q15l h9
        have hu := q0f4 (U := x.r1) (V := x.s1) hg k0 k1 (q0m8 oR (q0m7 h.1 (by omega)) (i := i) (by omega)) (q0m8 oZ (q0m7 h.2.2.1 (by omega)) (i := i) (by omega)) (by omega) h9
        rw [q0q3 g s t 0 (by omega) (by omega), q0q4 g s t 0 (by omega) (by omega), q14v (by omega) (q0ld h9), q14v (by omega) (q0li h9)] at hu
        simp only [nodes, rows, q0qa] at hu
        simp -implicitDefEqProofs only [eR', go_sem, nodes, q0qa, evT, a1, decide_eq_true (show (i : Int) < ((sets g 0).length : Int) by omega), List.getElem?_cons_zero, List.getElem?_cons_succ, opR, Nat.reduceBEq]
        repeat (first | refine ⟨by omega, ?_⟩ | refine ⟨by rw [q0l0]; omega, ?_⟩)
        simp only [evT] at hu
        refine q002.ref hu [1000000000] [] rfl Try.call210 (by simp) ?_ (by simp) (fun e R' hR => ?_) (.inl rfl) ?_
        . simp -implicitDefEqProofs only [sR', Nat.reduceEqDiff, ↓reduceIte]
        . simp -implicitDefEqProofs only [aR', go_sem]
        simp -implicitDefEqProofs only [cR', go_sem]
        refine hn2 _ (i + 1) (Weak.o _ _ [some 1000000000] ?_ ?_) (by omega) (by omega)
        . simp -implicitDefEqProofs only [wR', Nat.reduceBEq, Nat.reduceEqDiff, ↓reduceIte, nodes, evT, q0lb h9 (by omega)]
        . exact ⟨⟨_, rfl, .refl _⟩, rfl, trivial⟩
      . have hil : i = (sets g 0).length := by omega
        have m1 : mixL (q14y g s t 0 x.r0) x.r0 i = q14y g s t 0 x.r0 := by rw [hil, ← lR]; exact q14s (by omega)
        have m2 : mixL (q14z g s t 0 x.s0) x.s0 i = q14z g s t 0 x.s0 := by rw [hil, ← lZ]; exact q14s (by omega)
        rw [m1, m2]
        simp -implicitDefEqProofs only [eR', go_sem, nodes, q0qa, evT, decide_eq_false (show ¬ (i : Int) < ((sets g 0).length : Int) by omega)]
        refine he2 _ _ ?_
        simp -implicitDefEqProofs only [eR', go_sem]
        refine hn _ 1 (Weak.o _ _ [some 1000000000] ?_ ?_) (by omega) (by omega)
        . simp -implicitDefEqProofs only [wR', Nat.reduceBEq, Nat.reduceEqDiff, ↓reduceIte, nodes, evT, Int.zero_add, w1]
        . exact ⟨⟨_, rfl, .refl _⟩, rfl, trivial⟩
    | 1, _ =>
      have hsl := q15m hg 1
      have nR := q0le g s t 1 x.r1
      have nZ := q0lj g s t 1 x.s1
      have lR : x.r1.length = (sets g 1).length := h.2.1.1
      have lZ : x.s1.length = (sets g 1).length := h.2.2.2.1
      have oR : okM g 1 (n * 30000000000000 + 30000000000000) (q14y g s t 1 x.r1) := q151 fun i hi => q15f hg k0 k1 (.inr rfl : (1 : Int) = 0 ∨ (1 : Int) = 1) h.2.1 hi
      have oZ : okM g 1 (n * 30000000000000 + 30000000000000) (q14z g s t 1 x.s1) := q151 fun i hi => q15g hg k0 k1 (.inr rfl : (1 : Int) = 0 ∨ (1 : Int) = 1) h.2.2.2 hi
      simp -implicitDefEqProofs only [eR', go_sem, itS, nodes, q0qa, decide_eq_true (show (1 : Int) < 2 by omega), Int.natCast_zero, Int.cast_ofNat_Int, opR, Nat.reduceBEq]
      have hp := q0fd g 1 t1.2 p2.2
      simp only [q0qa] at hp
      refine q006.res hp [] rfl Try.call152 ?_ (.inl rfl) ?_
      . simp -implicitDefEqProofs only [aR', go_sem]
      simp -implicitDefEqProofs only [cR', go_sem]
      refine SemC.loopR (σ := Nat) (fun i => St.of [(0, .own 1000000000), (4, .t (evT g s t)), (5, .t (.i 1)), (20, .t (.i 1)), (28, .t (rows (sets g 1))), (29, .t (.i (sets g 1).length)), (30, .t (.i i))] [(1000000000, .box [nodes g.nd, rows g.w, rows g.v, q0qa (q14y g s t 0 x.r0), q0qa (mixL (q14y g s t 1 x.r1) x.r1 i), q0qa (q14z g s t 0 x.s0), q0qa (mixL (q14z g s t 1 x.s1) x.s1 i)])]) (fun i => i <= (sets g 1).length) (fun i => (sets g 1).length - i) 0 (Weak.trans (Weak.share 28 rfl) (Weak.o _ _ [some 1000000000] ?_ ?_)) (by simp) fun i hi R2 hn2 hr2 he2 => ?_
      . simp -implicitDefEqProofs only [wR', Nat.reduceBEq, Nat.reduceEqDiff, ↓reduceIte, q0rg, T.toSh, q0vg, nodes, evT]
      . refine ⟨⟨_, rfl, ?_⟩, rfl, trivial⟩
        rw [q14w, q14w]; exact .refl _
      rcases Nat.lt_or_ge i (sets g 1).length with h9 | h9
      . obtain ⟨a1, a2, a3, a4, a5, a6⟩ := q15l h9
        have hu := q0f5 (U := (q14y g s t 0 x.r0)) (V := (q14z g s t 0 x.s0)) hg k0 k1 (q0m8 oR (q0m7 h.2.1 (by omega)) (i := i) (by omega)) (q0m8 oZ (q0m7 h.2.2.2 (by omega)) (i := i) (by omega)) (by omega) h9
        rw [q0q3 g s t 1 (by omega) (by omega), q0q4 g s t 1 (by omega) (by omega), q14v (by omega) (q0ld h9), q14v (by omega) (q0li h9)] at hu
        simp only [nodes, rows, q0qa] at hu
        simp -implicitDefEqProofs only [eR', go_sem, nodes, q0qa, evT, a1, decide_eq_true (show (i : Int) < ((sets g 1).length : Int) by omega), List.getElem?_cons_zero, List.getElem?_cons_succ, opR, Nat.reduceBEq]
        repeat (first | refine ⟨by omega, ?_⟩ | refine ⟨by rw [q0l0]; omega, ?_⟩)
        simp only [evT] at hu
        refine q002.ref hu [1000000000] [] rfl Try.call210 (by simp) ?_ (by simp) (fun e R' hR => ?_) (.inl rfl) ?_
        . simp -implicitDefEqProofs only [sR', Nat.reduceEqDiff, ↓reduceIte]
        . simp -implicitDefEqProofs only [aR', go_sem]
        simp -implicitDefEqProofs only [cR', go_sem]
        refine hn2 _ (i + 1) (Weak.o _ _ [some 1000000000] ?_ ?_) (by omega) (by omega)
        . simp -implicitDefEqProofs only [wR', Nat.reduceBEq, Nat.reduceEqDiff, ↓reduceIte, nodes, evT, q0lb h9 (by omega)]
        . exact ⟨⟨_, rfl, .refl _⟩, rfl, trivial⟩
      . have hil : i = (sets g 1).length := by omega
        have m1 : mixL (q14y g s t 1 x.r1) x.r1 i = q14y g s t 1 x.r1 := by rw [hil, ← lR]; exact q14s (by omega)
        have m2 : mixL (q14z g s t 1 x.s1) x.s1 i = q14z g s t 1 x.s1 := by rw [hil, ← lZ]; exact q14s (by omega)
        rw [m1, m2]
        simp -implicitDefEqProofs only [eR', go_sem, nodes, q0qa, evT, decide_eq_false (show ¬ (i : Int) < ((sets g 1).length : Int) by omega)]
        refine he2 _ _ ?_
        simp -implicitDefEqProofs only [eR', go_sem]
        refine hn _ 2 (Weak.o _ _ [some 1000000000] ?_ ?_) (by omega) (by omega)
        . simp -implicitDefEqProofs only [wR', Nat.reduceBEq, Nat.reduceEqDiff, ↓reduceIte, nodes, evT, w2']
        . exact ⟨⟨_, rfl, .refl _⟩, rfl, trivial⟩
    | 2, _ =>
      simp -implicitDefEqProofs only [eR', go_sem, itS, nodes, q0qa, decide_eq_false (show ¬ (2 : Int) < 2 by omega), Int.natCast_zero, Int.cast_ofNat_Int]
      refine he _ _ ?_
      simp -implicitDefEqProofs only [eR', go_sem, itS, nodes, q0qa, opR, Nat.reduceBEq]
end
def ssS (g : Gm) (s t : List (List Int)) (x : RS) : Nat -> T
  | 0 => .box [nodes g.nd, rows g.w, rows g.v, .arr 1 [q0qa x.r0, q0qa x.r1], .arr 1 [q0qa x.s0, q0qa x.s1]]
  | 1 => .box [nodes g.nd, rows g.w, rows g.v, .arr 1 [q0qa (q14y g s t 0 x.r0), q0qa x.r1], .arr 1 [q0qa (q14z g s t 0 x.s0), q0qa x.s1]]
  | _ => .box [nodes g.nd, rows g.w, rows g.v, .arr 1 [q0qa (q14y g s t 0 x.r0), q0qa (q14y g s t 1 x.r1)], .arr 1 [q0qa (q14z g s t 0 x.s0), q0qa (q14z g s t 1 x.s1)]]
section
attribute [-go_sem] q0i5 q0id fldC lenC idxC q0ip q0lp
set_option maxHeartbeats 2000000 in
theorem q0sz (g : Gm) (hg : q0fl g = true) (x : RS) {n : Nat} (hn : n <= 900) (h : okRS g n x) : Fun Try.prog 169 [ssB g x] [.own 1000000000] fun o r => o = [ssB g (q15q g x)] /\ r = .tup [] := by
  obtain ⟨p1, p2, p3, p4, p5⟩ := q0fn hg
  obtain ⟨t1, t2, t3, t4⟩ := q0g0 p1
  obtain ⟨k0, k1, _, _⟩ := q152 hg (by omega) h
  have k0 := q0nx k0
  have k1 := q0nx k1
  have w1 : IntKind.i64.wrap 1 = 1 := rfl
  have w2' : IntKind.i64.wrap (1 + 1) = 2 := rfl
  refine q0cc (by simp) ?_
  simp -implicitDefEqProofs only [eR', go_sem, q05e, ssB, nodes, q0qa, opR, Nat.reduceBEq]
  refine ⟨_, Weak.trans (Weak.open 1000000000 3 501 rfl rfl rfl (by decide) rfl) (Weak.trans (Weak.open 501 0 502 rfl rfl rfl (by decide) rfl) (Weak.open 501 1 503 rfl rfl rfl (by decide) rfl)), ?_⟩
  simp -implicitDefEqProofs only [eR', go_sem, q0qa, opR, Nat.reduceBEq]
  have hs0 := q0t0 0 x.r0 (q0m9 hg (.inl rfl) h.1) (by omega)
  refine q000.res hs0 [502] rfl Try.call111 (fun e R' hR => ?_) (.inr ⟨trivial, q0qb _, trivial⟩) ?_
  . have hq502 := (hR 502).resolve_left (by simp -implicitDefEqProofs only [eR', go_sem, not_false_eq_true])
    simp -implicitDefEqProofs only [eR', go_sem] at hq502
    simp -implicitDefEqProofs only [aR', go_sem, hq502]
  simp -implicitDefEqProofs only [cR', go_sem, opR, Nat.reduceBEq]
  have hs1 := q0t0 1 x.r1 (q0m9 hg (.inr rfl) h.2.1) (by omega)
  refine q000.res hs1 [503] rfl Try.call111 (fun e R' hR => ?_) (.inr ⟨trivial, q0qb _, trivial⟩) ?_
  . have hq503 := (hR 503).resolve_left (by simp -implicitDefEqProofs only [eR', go_sem, not_false_eq_true])
    simp -implicitDefEqProofs only [eR', go_sem] at hq503
    simp -implicitDefEqProofs only [aR', go_sem, hq503]
  simp -implicitDefEqProofs only [cR', go_sem, opR, Nat.reduceBEq]
  have hstep : q15q g x = ⟨q14y g (stM x.r0) (stM x.r1) 0 x.r0, q14y g (stM x.r0) (stM x.r1) 1 x.r1, q14z g (stM x.r0) (stM x.r1) 0 x.s0, q14z g (stM x.r0) (stM x.r1) 1 x.s1⟩ := rfl
  rw [hstep]
  clear hs0 hs1 hstep
  generalize stM x.r0 = s at k0 ⊢
  generalize stM x.r1 = t at k1 ⊢
  refine ⟨_, Weak.trans (Weak.close 501 1 503 rfl rfl (by decide) rfl (by simp)) (Weak.trans (Weak.close1 501 0 502 rfl rfl (by decide) rfl) (Weak.trans (Weak.close1 1000000000 3 501 rfl rfl (by decide) rfl) (Weak.trans (Weak.share 2 rfl) (Weak.share 3 rfl)))), ?_⟩
  refine SemC.loopR (σ := Nat) (fun q => St.of [(0, .own 1000000000), (2, .t (.pin [.i 0, rows s] 0)), (3, .t (.pin [.i 1, rows t] 0)), (4, .t (.i q))] [(1000000000, ssS g s t x q)]) (fun q => q <= 2) (fun q => 2 - q) 0 (Weak.o _ _ [some 1000000000] ?_ ?_) (by omega) fun q hq R hn hr he => ?_
  . simp -implicitDefEqProofs only [wR', Nat.reduceBEq, Nat.reduceEqDiff, ↓reduceIte, q0rg, T.toSh, T.toShL, q0vg, nodes]
  . exact ⟨⟨_, rfl, .refl _⟩, rfl, trivial⟩
  . match q, hq with
    | 0, _ =>
      have hsl := q15m hg 0
      have nR := q0le g s t 0 x.r0
      have nZ := q0lj g s t 0 x.s0
      have lR : x.r0.length = (sets g 0).length := h.1.1
      have lZ : x.s0.length = (sets g 0).length := h.2.2.1.1
      simp -implicitDefEqProofs only [eR', go_sem, ssS, nodes, q0qa, decide_eq_true (show (0 : Int) < 2 by omega), show ((0 : Int) == 1) = false from rfl, show ((1 : Int) == 1) = true from rfl, Int.natCast_zero, Int.cast_ofNat_Int, opR, Nat.reduceBEq]
      have hp := q0h9 g 0 t1.2 p2.2
      simp only [q0qa] at hp
      refine q006.res hp [] rfl Try.call186 ?_ (.inl rfl) ?_
      . simp -implicitDefEqProofs only [aR', go_sem]
      simp -implicitDefEqProofs only [cR', go_sem]
      refine SemC.loopR (σ := Nat) (fun i => St.of [(0, .own 1000000000), (2, .t (.pin [.i 0, rows s] 0)), (3, .t (.pin [.i 1, rows t] 0)), (4, .t (.i 0)), (5, .own 105), (6, .t (rows (sets g 0))), (7, .t (.i i))] [(1000000000, .box [nodes g.nd, rows g.w, rows g.v, .arr 1 [q0qa (mixL (q14y g s t 0 x.r0) x.r0 i), q0qa x.r1], .arr 1 [q0qa (mixL (q14z g s t 0 x.s0) x.s0 i), q0qa x.s1]]), (105, .box [.i 0, rows s])]) (fun i => i <= (sets g 0).length) (fun i => (sets g 0).length - i) 0 (Weak.trans (Weak.share 40 rfl) (Weak.o _ _ [some 1000000000, some 5] ?_ ?_)) (by simp) fun i hi R2 hn2 hr2 he2 => ?_
      . simp -implicitDefEqProofs only [wR', Nat.reduceBEq, Nat.reduceEqDiff, ↓reduceIte, q0rg, T.toSh, q0vg, nodes]
      . refine ⟨⟨_, rfl, ?_⟩, rfl, ⟨_, rfl, .refl _⟩, rfl, trivial⟩
        rw [q14w, q14w]; exact .refl _
      rcases Nat.lt_or_ge i (sets g 0).length with h9 | h9
      . obtain ⟨a1, a2, a3, a4, a5, a6⟩ := q15l h9
        obtain ⟨b1, b2⟩ := q0ri hg (.inl rfl : (0 : Int) = 0 ∨ (0 : Int) = 1) h9
        obtain ⟨r, hr0, hr0', hrl, hrb⟩ := q150 h.1 h9
        obtain ⟨z, hz0, hz0', hzl, hzb⟩ := q150 h.2.2.1 h9
        obtain ⟨y1, y2, y3, y4⟩ := q14r hg (.inl rfl : (0 : Int) = 0 ∨ (0 : Int) = 1) (q153 k0 k1 (.inl rfl : (0 : Int) = 0 ∨ (0 : Int) = 1)).1 h9
        obtain ⟨f1, f2⟩ := q15f hg k0 k1 (.inl rfl : (0 : Int) = 0 ∨ (0 : Int) = 1) h.1 h9
        obtain ⟨f3, f4⟩ := q15g hg k0 k1 (.inl rfl : (0 : Int) = 0 ∨ (0 : Int) = 1) h.2.2.1 h9
        have hgR := q0ld (s := s) (t := t) (R := x.r0) h9
        have hgZ := q0li (s := s) (t := t) (R := x.s0) h9
        have hRd : rowR g s t 0 x.r0 i = updR r (cnts g s t 0 (setN g 0 i) (setC g 0 i)) (q14l ((q10l 0 s t).getD i []) (cnts g s t 0 (setN g 0 i) (setC g 0 i))) := by rw [rowR, hr0']
        have hSd : rowS g s t 0 x.s0 i = updW z ((q10l 0 s t).getD i []) (wayP g (q10l 0 s t) 0 (setC g 0 i) (setN g 0 i)) := by rw [rowS, hz0']
        have hqs : s[i]? = some ((q10l 0 s t).getD i []) := y1
        generalize hqq : (q10l 0 s t).getD i [] = qv at y1 y2 y3 y4 hRd hSd hqs
        generalize hnr : rowR g s t 0 x.r0 i = nr at f1 f2 hRd hgR
        generalize hnz : rowS g s t 0 x.s0 i = nz at f3 f4 hSd hgZ
        generalize setN g 0 i = n at a1 a2 a4 a5 hRd hSd
        generalize setC g 0 i = c at a1 a3 hRd hSd
        have h2 : (g.nd.getD n nd0).p ≠ 2 := by omega
        have hcb := q149 hg k0 k1 (.inl rfl : (0 : Int) = 0 ∨ (0 : Int) = 1) a2 h2 a3
        have hcl := q14b g s t 0 n c
        have hcc := q0st hg k0 k1 a2 h2 a3
        have hway := q0sy hg (.inl rfl : (0 : Int) = 0 ∨ (0 : Int) = 1) (q153 k0 k1 (.inl rfl : (0 : Int) = 0 ∨ (0 : Int) = 1)).1 a3 a2
        have hwb := q154 hg (q153 k0 k1 (.inl rfl : (0 : Int) = 0 ∨ (0 : Int) = 1)).1 a3 a2 h2
        have hMb := q14n y3 hcb (cnts g s t 0 n c).length
        have hMd : q14l qv (cnts g s t 0 n c) = q14m qv (cnts g s t 0 n c) (cnts g s t 0 n c).length := rfl
        rw [show q10l 0 s t = s from rfl] at hway hwb hSd
        simp only [intsO] at hcc
        simp -implicitDefEqProofs only [eR', go_sem, nodes, q0qa, a1, decide_eq_true (show (i : Int) < ((sets g 0).length : Int) by omega), List.getElem?_cons_zero, List.getElem?_cons_succ, opR, Nat.reduceBEq]
        repeat (first | refine ⟨by omega, ?_⟩ | refine ⟨by rw [q0l0]; omega, ?_⟩)
        refine q000.res hcc [] rfl Try.call208 (fun e R' hR => ?_) (.inl rfl) ?_
        . simp -implicitDefEqProofs only [aR', go_sem]
        simp -implicitDefEqProofs only [cR', go_sem, opR, Nat.reduceBEq]
        generalize wayP g s 0 c n = w at hwb hSd hway
        generalize cnts g s t 0 n c = C at hcb hcl hMb hMd hRd
        refine SemC.loopR (σ := Nat) (fun k => St.of [(0, .own 1000000000), (2, .t (.pin [.i 0, rows s] 0)), (3, .t (.pin [.i 1, rows t] 0)), (4, .t (.i 0)), (5, .own 105), (6, .t (rows (sets g 0))), (7, .t (.i i)), (8, .own 98), (9, .t (.i (q14m qv C k))), (10, .t (.i k))] [(1000000000, .box [nodes g.nd, rows g.w, rows g.v, .arr 1 [q0qa (mixL (q14y g s t 0 x.r0) x.r0 i), q0qa x.r1], .arr 1 [q0qa (mixL (q14z g s t 0 x.s0) x.s0 i), q0qa x.s1]]), (105, .box [.i 0, rows s]), (98, intsO C)]) (fun k => k <= C.length) (fun k => C.length - k) 0 (Weak.o _ _ [some 1000000000, some 105, some 66] ?_ ?_) (by omega) fun k hk R3 hn3 hr3 he3 => ?_
        . simp -implicitDefEqProofs only [wR', Nat.reduceBEq, Nat.reduceEqDiff, ↓reduceIte, nodes, q14p]
        . exact ⟨⟨_, rfl, .refl _⟩, rfl, ⟨_, rfl, .refl _⟩, rfl, ⟨_, rfl, .refl _⟩, rfl, trivial⟩
        rcases Nat.lt_or_ge k C.length with h8 | h8
        . obtain ⟨v, hv⟩ : ∃ v, C[k]? = some v := ⟨_, List.getElem?_eq_getElem h8⟩
          obtain ⟨y, hy⟩ : ∃ y, qv[k]? = some y := ⟨_, List.getElem?_eq_getElem (by omega)⟩
          have hyb := y3 y (List.mem_of_getElem? hy)
          have hvb := hcb v (List.mem_of_getElem? hv)
          obtain ⟨m1, m2⟩ := q0kl hyb.1 hvb.1 hvb.2
          have hms := q14o hy hv
          have hm1 := q14n y3 hcb k
          have hm2 := q14n y3 hcb (k + 1)
          have hqsl := (List.getElem?_eq_some_iff.1 hqs).1
          simp -implicitDefEqProofs only [eR', go_sem, nodes, q0qa, intsO, hqs, hy, hv, decide_eq_true (show (k : Int) < (C.length : Int) by omega), opR, Nat.reduceBEq]
          repeat (first | refine ⟨by omega, ?_⟩ | refine ⟨by rw [q0l0]; omega, ?_⟩)
          refine hn3 _ (k + 1) (Weak.o _ _ [some 1000000000, some 105, some 98] ?_ ?_) (by omega) (by omega)
          . simp -implicitDefEqProofs only [wR', Nat.reduceBEq, Nat.reduceEqDiff, ↓reduceIte, nodes, q0lb h8 (show C.length <= 1000000000000 by omega), wrap64 (n := y * v) (by omega) (by omega), ← hms, wrap64 (n := q14m qv C (k + 1)) (by omega) (by omega)]
          . exact ⟨⟨_, rfl, .refl _⟩, rfl, ⟨_, rfl, .refl _⟩, rfl, ⟨_, rfl, .refl _⟩, rfl, trivial⟩
        have hkC : k = C.length := by omega
        subst hkC
        rw [← hMd]
        rw [← hMd] at hMb
        generalize q14l qv C = M at hMb hRd ⊢
        simp -implicitDefEqProofs only [eR', go_sem, nodes, q0qa, intsO, a1, decide_eq_false (show ¬ (C.length : Int) < (C.length : Int) by omega), opR, Nat.reduceBEq]
        refine he3 _ _ ?_
        simp -implicitDefEqProofs only [eR', go_sem, nodes, q0qa, intsO, a1, List.getElem?_cons_zero, List.getElem?_cons_succ, opR, Nat.reduceBEq]
        repeat (first | refine ⟨by omega, ?_⟩ | refine ⟨by rw [q0l0]; omega, ?_⟩)
        refine q004.pure hway [] rfl Try.call209 (fun e R' hR => ?_) (by first | trivial | simp [T.noSh, T.noShL, rat]) (fun _ => rfl) ?_
        . simp -implicitDefEqProofs only [aR', go_sem]
        simp -implicitDefEqProofs only [eR', go_sem]
        have hnl : nr.length = r.length := by omega
        have hnz' : nz.length = z.length := by omega
        have hLR : (mixL (q14y g s t 0 x.r0) x.r0 i).length = x.r0.length := q14u (by omega) (by omega)
        have hLZ : (mixL (q14z g s t 0 x.s0) x.s0 i).length = x.s0.length := q14u (by omega) (by omega)
        have hmR := q14v (new := q14y g s t 0 x.r0) (old := x.r0) (by omega) hgR
        have hmZ := q14v (new := q14z g s t 0 x.s0) (old := x.s0) (by omega) hgZ
        have hgR0 : (mixL (q14y g s t 0 x.r0) x.r0 i)[i]? = some r := by rw [q14t (by omega) (by omega)]; exact hr0
        have hgZ0 : (mixL (q14z g s t 0 x.s0) x.s0 i)[i]? = some z := by rw [q14t (by omega) (by omega)]; exact hz0
        refine SemC.loopR (σ := Nat) (fun k => St.of [(0, .own 1000000000), (2, .t (.pin [.i 0, rows s] 0)), (3, .t (.pin [.i 1, rows t] 0)), (4, .t (.i 0)), (5, .own 105), (6, .t (rows (sets g 0))), (7, .t (.i i)), (8, .own 98), (9, .t (.i M)), (11, .t (.i w)), (12, .t (.i k))] [(1000000000, .box [nodes g.nd, rows g.w, rows g.v, .arr 1 [q0qa ((mixL (q14y g s t 0 x.r0) x.r0 i).set i (mixL nr r k)), q0qa x.r1], .arr 1 [q0qa ((mixL (q14z g s t 0 x.s0) x.s0 i).set i (mixL nz z k)), q0qa x.s1]]), (105, .box [.i 0, rows s]), (98, intsO C)]) (fun k => k <= C.length) (fun k => C.length - k) 0 (Weak.o _ _ [some 1000000000, some 105, some 98] ?_ ?_) (by omega) fun k hk R4 hn4 hr4 he4 => ?_
        . simp -implicitDefEqProofs only [wR', Nat.reduceBEq, Nat.reduceEqDiff, ↓reduceIte, nodes]
        . refine ⟨⟨_, rfl, ?_⟩, rfl, ⟨_, rfl, .refl _⟩, rfl, ⟨_, rfl, .refl _⟩, rfl, trivial⟩
          rw [q14w, q14w, q0r2 hgR0, q0r2 hgZ0]; exact .refl _
        rcases Nat.lt_or_ge k C.length with h8 | h8
        . obtain ⟨v, hv⟩ : ∃ v, C[k]? = some v := ⟨_, List.getElem?_eq_getElem h8⟩
          obtain ⟨y, hy⟩ : ∃ y, qv[k]? = some y := ⟨_, List.getElem?_eq_getElem (by omega)⟩
          obtain ⟨x0, hx0⟩ : ∃ x0, r[k]? = some x0 := ⟨_, List.getElem?_eq_getElem (by omega)⟩
          obtain ⟨x1, hx1⟩ : ∃ x1, z[k]? = some x1 := ⟨_, List.getElem?_eq_getElem (by omega)⟩
          have hyb := y3 y (List.mem_of_getElem? hy)
          have hvb := hcb v (List.mem_of_getElem? hv)
          have hb0 := hrb x0 (List.mem_of_getElem? hx0)
          have hb1 := hzb x1 (List.mem_of_getElem? hx1)
          have hwy : 0 <= w * y /\ w * y <= 12960000 * 60 := ⟨Int.mul_nonneg hwb.1 hyb.1, Int.mul_le_mul hwb.2 hyb.2 hyb.1 (by decide)⟩
          have hnr1 : nr[k]? = some (x0 + (60 * v - M)) := by rw [hRd]; exact q15t hx0 hv
          have hnz1 : nz[k]? = some (x1 + w * y) := by rw [hSd]; exact q15v hx1 hy
          have hg1 : (mixL nr r k)[k]? = some x0 := by rw [q14t hnl (by omega)]; exact hx0
          have hg2 : (mixL nz z k)[k]? = some x1 := by rw [q14t hnz' (by omega)]; exact hx1
          have hl1 : (mixL nr r k).length = r.length := q14u hnl (by omega)
          have hl2 : (mixL nz z k).length = z.length := q14u hnz' (by omega)
          have hqsl := (List.getElem?_eq_some_iff.1 hqs).1
          have hc1 : (List.map intsO ((mixL (q14y g s t 0 x.r0) x.r0 i).set i (mixL nr r k)))[i]? = some (intsO (mixL nr r k)) := by rw [List.getElem?_map, List.getElem?_set_self (by omega)]; rfl
          have hc2 : (List.map intsO ((mixL (q14z g s t 0 x.s0) x.s0 i).set i (mixL nz z k)))[i]? = some (intsO (mixL nz z k)) := by rw [List.getElem?_map, List.getElem?_set_self (by omega)]; rfl
          have hc3 : ((List.map intsO ((mixL (q14y g s t 0 x.r0) x.r0 i).set i (mixL nr r k))).set i T.any)[i]? = some T.any := List.getElem?_set_self (by rw [List.length_map, List.length_set]; omega)
          have hc4 : ((List.map intsO ((mixL (q14z g s t 0 x.s0) x.s0 i).set i (mixL nz z k))).set i T.any)[i]? = some T.any := List.getElem?_set_self (by rw [List.length_map, List.length_set]; omega)
          simp -implicitDefEqProofs only [eR', go_sem, nodes, q0qa, intsO, hy, decide_eq_true (show (k : Int) < (C.length : Int) by omega), opR, Nat.reduceBEq]
          refine ⟨_, Weak.trans (Weak.open 1000000000 3 501 rfl rfl rfl (by decide) rfl) (Weak.trans (Weak.open 501 0 502 rfl rfl rfl (by decide) rfl) (Weak.open 502 i 503 rfl hc1 rfl (by decide) rfl)), ?_⟩
          simp -implicitDefEqProofs only [eR', go_sem, q0qa, intsO, hg1, hc1, hc3, hl1, hLR, hv, List.length_set, opR, Nat.reduceBEq]
          repeat (first | refine ⟨by omega, ?_⟩ | refine ⟨by rw [q0l0]; omega, ?_⟩)
          refine ⟨_, Weak.trans (Weak.close1 502 i 503 rfl rfl (by decide) hc3) (Weak.trans (Weak.close1 501 0 502 rfl rfl (by decide) rfl) (Weak.trans (Weak.close1 1000000000 3 501 rfl rfl (by decide) rfl) (Weak.trans (Weak.open 1000000000 4 504 rfl rfl rfl (by decide) rfl) (Weak.trans (Weak.open 504 0 505 rfl rfl rfl (by decide) rfl) (Weak.open 505 i 506 rfl hc2 rfl (by decide) rfl))))), ?_⟩
          simp -implicitDefEqProofs only [eR', go_sem, q0qa, intsO, hg2, hc2, hc4, hl2, hLZ, hv, hqs, hy, List.length_set, opR, Nat.reduceBEq]
          repeat (first | refine ⟨by omega, ?_⟩ | refine ⟨by rw [q0l0]; omega, ?_⟩)
          have wA : IntKind.i64.wrap (60 * v) = 60 * v := wrap64 (by omega) (by omega)
          have wB : IntKind.i64.wrap (x0 + 60 * v) = x0 + 60 * v := wrap64 (by omega) (by omega)
          have wC : IntKind.i64.wrap (x0 + 60 * v - M) = x0 + (60 * v - M) := by rw [wrap64 (by omega) (by omega)]; omega
          have wD : IntKind.i64.wrap (w * y) = w * y := wrap64 (by omega) (by omega)
          have wE : IntKind.i64.wrap (x1 + w * y) = x1 + w * y := wrap64 (by omega) (by omega)
          refine ⟨_, Weak.trans (Weak.close1 505 i 506 rfl rfl (by decide) hc4) (Weak.trans (Weak.close1 504 0 505 rfl rfl (by decide) rfl) (Weak.close1 1000000000 4 504 rfl rfl (by decide) rfl)), ?_⟩
          simp -implicitDefEqProofs only [eR', go_sem, q0qa, intsO, opR, Nat.reduceBEq]
          refine hn4 _ (k + 1) (Weak.o _ _ [some 1000000000, some 105, some 98] ?_ ?_) (by omega) (by omega)
          . simp -implicitDefEqProofs only [wR', Nat.reduceBEq, Nat.reduceEqDiff, ↓reduceIte, nodes, q0lb h8 (show C.length <= 1000000000000 by omega)]
          . refine ⟨⟨_, rfl, ?_⟩, rfl, ⟨_, rfl, .refl _⟩, rfl, ⟨_, rfl, .refl _⟩, rfl, trivial⟩
            rw [← q14v hnl hnr1, ← q14v hnz' hnz1]
            simp only [q0qa, intsO, List.map_set, List.set_set, wA, wB, wC, wD, wE, nodes, rows]
            exact .refl _
        . have m1 : mixL nr r k = nr := by rw [show k = r.length by omega]; exact q14s hnl
          have m2 : mixL nz z k = nz := by rw [show k = z.length by omega]; exact q14s hnz'
          rw [m1, m2, hmR, hmZ]
          simp -implicitDefEqProofs only [eR', go_sem, nodes, q0qa, intsO, decide_eq_false (show ¬ (k : Int) < (C.length : Int) by omega), opR, Nat.reduceBEq]
          refine he4 _ _ ?_
          simp -implicitDefEqProofs only [eR', go_sem]
          refine hn2 _ (i + 1) (Weak.o _ _ [some 1000000000, some 105] ?_ ?_) (by omega) (by omega)
          . simp -implicitDefEqProofs only [wR', Nat.reduceBEq, Nat.reduceEqDiff, ↓reduceIte, nodes, q0lb h9 (by omega)]
          . exact ⟨⟨_, rfl, .refl _⟩, rfl, ⟨_, rfl, .refl _⟩, rfl, trivial⟩
      . have hil : i = (sets g 0).length := by omega
        have m1 : mixL (q14y g s t 0 x.r0) x.r0 i = q14y g s t 0 x.r0 := by rw [hil, ← lR]; exact q14s (by omega)
        have m2 : mixL (q14z g s t 0 x.s0) x.s0 i = q14z g s t 0 x.s0 := by rw [hil, ← lZ]; exact q14s (by omega)
        rw [m1, m2]
        simp -implicitDefEqProofs only [eR', go_sem, nodes, q0qa, decide_eq_false (show ¬ (i : Int) < ((sets g 0).length : Int) by omega)]
        refine he2 _ _ ?_
        simp -implicitDefEqProofs only [eR', go_sem]
        refine hn _ 1 (Weak.o _ _ [some 1000000000] ?_ ?_) (by omega) (by omega)
        . simp -implicitDefEqProofs only [wR', Nat.reduceBEq, Nat.reduceEqDiff, ↓reduceIte, nodes, Int.zero_add, w1]
        . exact ⟨⟨_, rfl, .refl _⟩, rfl, trivial⟩
    | 1, _ =>
      have hsl := q15m hg 1
      have nR := q0le g s t 1 x.r1
      have nZ := q0lj g s t 1 x.s1
      have lR : x.r1.length = (sets g 1).length := h.2.1.1
      have lZ : x.s1.length = (sets g 1).length := h.2.2.2.1
      simp -implicitDefEqProofs only [eR', go_sem, ssS, nodes, q0qa, decide_eq_true (show (1 : Int) < 2 by omega), show ((0 : Int) == 1) = false from rfl, show ((1 : Int) == 1) = true from rfl, Int.natCast_zero, Int.cast_ofNat_Int, opR, Nat.reduceBEq]
      have hp := q0h9 g 1 t1.2 p2.2
      simp only [q0qa] at hp
      refine q006.res hp [] rfl Try.call186 ?_ (.inl rfl) ?_
      . simp -implicitDefEqProofs only [aR', go_sem]
      simp -implicitDefEqProofs only [cR', go_sem]
      refine SemC.loopR (σ := Nat) (fun i => St.of [(0, .own 1000000000), (2, .t (.pin [.i 0, rows s] 0)), (3, .t (.pin [.i 1, rows t] 0)), (4, .t (.i 1)), (5, .own 105), (6, .t (rows (sets g 1))), (7, .t (.i i))] [(1000000000, .box [nodes g.nd, rows g.w, rows g.v, .arr 1 [q0qa (q14y g s t 0 x.r0), q0qa (mixL (q14y g s t 1 x.r1) x.r1 i)], .arr 1 [q0qa (q14z g s t 0 x.s0), q0qa (mixL (q14z g s t 1 x.s1) x.s1 i)]]), (105, .box [.i 1, rows t])]) (fun i => i <= (sets g 1).length) (fun i => (sets g 1).length - i) 0 (Weak.trans (Weak.share 40 rfl) (Weak.o _ _ [some 1000000000, some 5] ?_ ?_)) (by simp) fun i hi R2 hn2 hr2 he2 => ?_
      . simp -implicitDefEqProofs only [wR', Nat.reduceBEq, Nat.reduceEqDiff, ↓reduceIte, q0rg, T.toSh, q0vg, nodes]
      . refine ⟨⟨_, rfl, ?_⟩, rfl, ⟨_, rfl, .refl _⟩, rfl, trivial⟩
        rw [q14w, q14w]; exact .refl _
      rcases Nat.lt_or_ge i (sets g 1).length with h9 | h9
      . obtain ⟨a1, a2, a3, a4, a5, a6⟩ := q15l h9
        obtain ⟨b1, b2⟩ := q0ri hg (.inr rfl : (1 : Int) = 0 ∨ (1 : Int) = 1) h9
        obtain ⟨r, hr0, hr0', hrl, hrb⟩ := q150 h.2.1 h9
        obtain ⟨z, hz0, hz0', hzl, hzb⟩ := q150 h.2.2.2 h9
        obtain ⟨y1, y2, y3, y4⟩ := q14r hg (.inr rfl : (1 : Int) = 0 ∨ (1 : Int) = 1) (q153 k0 k1 (.inr rfl : (1 : Int) = 0 ∨ (1 : Int) = 1)).1 h9
        obtain ⟨f1, f2⟩ := q15f hg k0 k1 (.inr rfl : (1 : Int) = 0 ∨ (1 : Int) = 1) h.2.1 h9
        obtain ⟨f3, f4⟩ := q15g hg k0 k1 (.inr rfl : (1 : Int) = 0 ∨ (1 : Int) = 1) h.2.2.2 h9
        have hgR := q0ld (s := s) (t := t) (R := x.r1) h9
        have hgZ := q0li (s := s) (t := t) (R := x.s1) h9
        have hRd : rowR g s t 1 x.r1 i = updR r (cnts g s t 1 (setN g 1 i) (setC g 1 i)) (q14l ((q10l 1 s t).getD i []) (cnts g s t 1 (setN g 1 i) (setC g 1 i))) := by rw [rowR, hr0']
        have hSd : rowS g s t 1 x.s1 i = updW z ((q10l 1 s t).getD i []) (wayP g (q10l 1 s t) 1 (setC g 1 i) (setN g 1 i)) := by rw [rowS, hz0']
        have hqs : t[i]? = some ((q10l 1 s t).getD i []) := y1
        generalize hqq : (q10l 1 s t).getD i [] = qv at y1 y2 y3 y4 hRd hSd hqs
        generalize hnr : rowR g s t 1 x.r1 i = nr at f1 f2 hRd hgR
        generalize hnz : rowS g s t 1 x.s1 i = nz at f3 f4 hSd hgZ
        generalize setN g 1 i = n at a1 a2 a4 a5 hRd hSd
        generalize setC g 1 i = c at a1 a3 hRd hSd
        have h2 : (g.nd.getD n nd0).p ≠ 2 := by omega
        have hcb := q149 hg k0 k1 (.inr rfl : (1 : Int) = 0 ∨ (1 : Int) = 1) a2 h2 a3
        have hcl := q14b g s t 1 n c
        have hcc := q0su hg k0 k1 a2 h2 a3
        have hway := q0sy hg (.inr rfl : (1 : Int) = 0 ∨ (1 : Int) = 1) (q153 k0 k1 (.inr rfl : (1 : Int) = 0 ∨ (1 : Int) = 1)).1 a3 a2
        have hwb := q154 hg (q153 k0 k1 (.inr rfl : (1 : Int) = 0 ∨ (1 : Int) = 1)).1 a3 a2 h2
        have hMb := q14n y3 hcb (cnts g s t 1 n c).length
        have hMd : q14l qv (cnts g s t 1 n c) = q14m qv (cnts g s t 1 n c) (cnts g s t 1 n c).length := rfl
        rw [show q10l 1 s t = t from rfl] at hway hwb hSd
        simp only [intsO] at hcc
        simp -implicitDefEqProofs only [eR', go_sem, nodes, q0qa, a1, decide_eq_true (show (i : Int) < ((sets g 1).length : Int) by omega), List.getElem?_cons_zero, List.getElem?_cons_succ, opR, Nat.reduceBEq]
        repeat (first | refine ⟨by omega, ?_⟩ | refine ⟨by rw [q0l0]; omega, ?_⟩)
        refine q000.res hcc [] rfl Try.call208 (fun e R' hR => ?_) (.inl rfl) ?_
        . simp -implicitDefEqProofs only [aR', go_sem]
        simp -implicitDefEqProofs only [cR', go_sem, opR, Nat.reduceBEq]
        generalize wayP g t 1 c n = w at hwb hSd hway
        generalize cnts g s t 1 n c = C at hcb hcl hMb hMd hRd
        refine SemC.loopR (σ := Nat) (fun k => St.of [(0, .own 1000000000), (2, .t (.pin [.i 0, rows s] 0)), (3, .t (.pin [.i 1, rows t] 0)), (4, .t (.i 1)), (5, .own 105), (6, .t (rows (sets g 1))), (7, .t (.i i)), (8, .own 98), (9, .t (.i (q14m qv C k))), (10, .t (.i k))] [(1000000000, .box [nodes g.nd, rows g.w, rows g.v, .arr 1 [q0qa (q14y g s t 0 x.r0), q0qa (mixL (q14y g s t 1 x.r1) x.r1 i)], .arr 1 [q0qa (q14z g s t 0 x.s0), q0qa (mixL (q14z g s t 1 x.s1) x.s1 i)]]), (105, .box [.i 1, rows t]), (98, intsO C)]) (fun k => k <= C.length) (fun k => C.length - k) 0 (Weak.o _ _ [some 1000000000, some 105, some 66] ?_ ?_) (by omega) fun k hk R3 hn3 hr3 he3 => ?_
        . simp -implicitDefEqProofs only [wR', Nat.reduceBEq, Nat.reduceEqDiff, ↓reduceIte, nodes, q14p]
        . exact ⟨⟨_, rfl, .refl _⟩, rfl, ⟨_, rfl, .refl _⟩, rfl, ⟨_, rfl, .refl _⟩, rfl, trivial⟩
        rcases Nat.lt_or_ge k C.length with h8 | h8
        . obtain ⟨v, hv⟩ : ∃ v, C[k]? = some v := ⟨_, List.getElem?_eq_getElem h8⟩
          obtain ⟨y, hy⟩ : ∃ y, qv[k]? = some y := ⟨_, List.getElem?_eq_getElem (by omega)⟩
          have hyb := y3 y (List.mem_of_getElem? hy)
          have hvb := hcb v (List.mem_of_getElem? hv)
          obtain ⟨m1, m2⟩ := q0kl hyb.1 hvb.1 hvb.2
          have hms := q14o hy hv
          have hm1 := q14n y3 hcb k
          have hm2 := q14n y3 hcb (k + 1)
          have hqsl := (List.getElem?_eq_some_iff.1 hqs).1
          simp -implicitDefEqProofs only [eR', go_sem, nodes, q0qa, intsO, hqs, hy, hv, decide_eq_true (show (k : Int) < (C.length : Int) by omega), opR, Nat.reduceBEq]
          repeat (first | refine ⟨by omega, ?_⟩ | refine ⟨by rw [q0l0]; omega, ?_⟩)
          refine hn3 _ (k + 1) (Weak.o _ _ [some 1000000000, some 105, some 98] ?_ ?_) (by omega) (by omega)
          . simp -implicitDefEqProofs only [wR', Nat.reduceBEq, Nat.reduceEqDiff, ↓reduceIte, nodes, q0lb h8 (show C.length <= 1000000000000 by omega), wrap64 (n := y * v) (by omega) (by omega), ← hms, wrap64 (n := q14m qv C (k + 1)) (by omega) (by omega)]
          . exact ⟨⟨_, rfl, .refl _⟩, rfl, ⟨_, rfl, .refl _⟩, rfl, ⟨_, rfl, .refl _⟩, rfl, trivial⟩
        have hkC : k = C.length := by omega
        subst hkC
        rw [← hMd]
        rw [← hMd] at hMb
        generalize q14l qv C = M at hMb hRd ⊢
        simp -implicitDefEqProofs only [eR', go_sem, nodes, q0qa, intsO, a1, decide_eq_false (show ¬ (C.length : Int) < (C.length : Int) by omega), opR, Nat.reduceBEq]
        refine he3 _ _ ?_
        simp -implicitDefEqProofs only [eR', go_sem, nodes, q0qa, intsO, a1, List.getElem?_cons_zero, List.getElem?_cons_succ, opR, Nat.reduceBEq]
        repeat (first | refine ⟨by omega, ?_⟩ | refine ⟨by rw [q0l0]; omega, ?_⟩)
        refine q004.pure hway [] rfl Try.call209 (fun e R' hR => ?_) (by first | trivial | simp [T.noSh, T.noShL, rat]) (fun _ => rfl) ?_
        . simp -implicitDefEqProofs only [aR', go_sem]
        simp -implicitDefEqProofs only [eR', go_sem]
        have hnl : nr.length = r.length := by omega
        have hnz' : nz.length = z.length := by omega
        have hLR : (mixL (q14y g s t 1 x.r1) x.r1 i).length = x.r1.length := q14u (by omega) (by omega)
        have hLZ : (mixL (q14z g s t 1 x.s1) x.s1 i).length = x.s1.length := q14u (by omega) (by omega)
        have hmR := q14v (new := q14y g s t 1 x.r1) (old := x.r1) (by omega) hgR
        have hmZ := q14v (new := q14z g s t 1 x.s1) (old := x.s1) (by omega) hgZ
        have hgR0 : (mixL (q14y g s t 1 x.r1) x.r1 i)[i]? = some r := by rw [q14t (by omega) (by omega)]; exact hr0
        have hgZ0 : (mixL (q14z g s t 1 x.s1) x.s1 i)[i]? = some z := by rw [q14t (by omega) (by omega)]; exact hz0
        refine SemC.loopR (σ := Nat) (fun k => St.of [(0, .own 1000000000), (2, .t (.pin [.i 0, rows s] 0)), (3, .t (.pin [.i 1, rows t] 0)), (4, .t (.i 1)), (5, .own 105), (6, .t (rows (sets g 1))), (7, .t (.i i)), (8, .own 98), (9, .t (.i M)), (11, .t (.i w)), (12, .t (.i k))] [(1000000000, .box [nodes g.nd, rows g.w, rows g.v, .arr 1 [q0qa (q14y g s t 0 x.r0), q0qa ((mixL (q14y g s t 1 x.r1) x.r1 i).set i (mixL nr r k))], .arr 1 [q0qa (q14z g s t 0 x.s0), q0qa ((mixL (q14z g s t 1 x.s1) x.s1 i).set i (mixL nz z k))]]), (105, .box [.i 1, rows t]), (98, intsO C)]) (fun k => k <= C.length) (fun k => C.length - k) 0 (Weak.o _ _ [some 1000000000, some 105, some 98] ?_ ?_) (by omega) fun k hk R4 hn4 hr4 he4 => ?_
        . simp -implicitDefEqProofs only [wR', Nat.reduceBEq, Nat.reduceEqDiff, ↓reduceIte, nodes]
        . refine ⟨⟨_, rfl, ?_⟩, rfl, ⟨_, rfl, .refl _⟩, rfl, ⟨_, rfl, .refl _⟩, rfl, trivial⟩
          rw [q14w, q14w, q0r2 hgR0, q0r2 hgZ0]; exact .refl _
        rcases Nat.lt_or_ge k C.length with h8 | h8
        . obtain ⟨v, hv⟩ : ∃ v, C[k]? = some v := ⟨_, List.getElem?_eq_getElem h8⟩
          obtain ⟨y, hy⟩ : ∃ y, qv[k]? = some y := ⟨_, List.getElem?_eq_getElem (by omega)⟩
          obtain ⟨x0, hx0⟩ : ∃ x0, r[k]? = some x0 := ⟨_, List.getElem?_eq_getElem (by omega)⟩
          obtain ⟨x1, hx1⟩ : ∃ x1, z[k]? = some x1 := ⟨_, List.getElem?_eq_getElem (by omega)⟩
          have hyb := y3 y (List.mem_of_getElem? hy)
          have hvb := hcb v (List.mem_of_getElem? hv)
          have hb0 := hrb x0 (List.mem_of_getElem? hx0)
          have hb1 := hzb x1 (List.mem_of_getElem? hx1)
          have hwy : 0 <= w * y /\ w * y <= 12960000 * 60 := ⟨Int.mul_nonneg hwb.1 hyb.1, Int.mul_le_mul hwb.2 hyb.2 hyb.1 (by decide)⟩
          have hnr1 : nr[k]? = some (x0 + (60 * v - M)) := by rw [hRd]; exact q15t hx0 hv
          have hnz1 : nz[k]? = some (x1 + w * y) := by rw [hSd]; exact q15v hx1 hy
          have hg1 : (mixL nr r k)[k]? = some x0 := by rw [q14t hnl (by omega)]; exact hx0
          have hg2 : (mixL nz z k)[k]? = some x1 := by rw [q14t hnz' (by omega)]; exact hx1
          have hl1 : (mixL nr r k).length = r.length := q14u hnl (by omega)
          have hl2 : (mixL nz z k).length = z.length := q14u hnz' (by omega)
          have hqsl := (List.getElem?_eq_some_iff.1 hqs).1
          have hc1 : (List.map intsO ((mixL (q14y g s t 1 x.r1) x.r1 i).set i (mixL nr r k)))[i]? = some (intsO (mixL nr r k)) := by rw [List.getElem?_map, List.getElem?_set_self (by omega)]; rfl
          have hc2 : (List.map intsO ((mixL (q14z g s t 1 x.s1) x.s1 i).set i (mixL nz z k)))[i]? = some (intsO (mixL nz z k)) := by rw [List.getElem?_map, List.getElem?_set_self (by omega)]; rfl
          have hc3 : ((List.map intsO ((mixL (q14y g s t 1 x.r1) x.r1 i).set i (mixL nr r k))).set i T.any)[i]? = some T.any := List.getElem?_set_self (by rw [List.length_map, List.length_set]; omega)
          have hc4 : ((List.map intsO ((mixL (q14z g s t 1 x.s1) x.s1 i).set i (mixL nz z k))).set i T.any)[i]? = some T.any := List.getElem?_set_self (by rw [List.length_map, List.length_set]; omega)
          simp -implicitDefEqProofs only [eR', go_sem, nodes, q0qa, intsO, hy, decide_eq_true (show (k : Int) < (C.length : Int) by omega), opR, Nat.reduceBEq]
          refine ⟨_, Weak.trans (Weak.open 1000000000 3 501 rfl rfl rfl (by decide) rfl) (Weak.trans (Weak.open 501 1 502 rfl rfl rfl (by decide) rfl) (Weak.open 502 i 503 rfl hc1 rfl (by decide) rfl)), ?_⟩
          simp -implicitDefEqProofs only [eR', go_sem, q0qa, intsO, hg1, hc1, hc3, hl1, hLR, hv, List.length_set, opR, Nat.reduceBEq]
          repeat (first | refine ⟨by omega, ?_⟩ | refine ⟨by rw [q0l0]; omega, ?_⟩)
          refine ⟨_, Weak.trans (Weak.close1 502 i 503 rfl rfl (by decide) hc3) (Weak.trans (Weak.close1 501 1 502 rfl rfl (by decide) rfl) (Weak.trans (Weak.close1 1000000000 3 501 rfl rfl (by decide) rfl) (Weak.trans (Weak.open 1000000000 4 504 rfl rfl rfl (by decide) rfl) (Weak.trans (Weak.open 504 1 505 rfl rfl rfl (by decide) rfl) (Weak.open 505 i 506 rfl hc2 rfl (by decide) rfl))))), ?_⟩
          simp -implicitDefEqProofs only [eR', go_sem, q0qa, intsO, hg2, hc2, hc4, hl2, hLZ, hv, hqs, hy, List.length_set, opR, Nat.reduceBEq]
          repeat (first | refine ⟨by omega, ?_⟩ | refine ⟨by rw [q0l0]; omega, ?_⟩)
          have wA : IntKind.i64.wrap (60 * v) = 60 * v := wrap64 (by omega) (by omega)
          have wB : IntKind.i64.wrap (x0 + 60 * v) = x0 + 60 * v := wrap64 (by omega) (by omega)
          have wC : IntKind.i64.wrap (x0 + 60 * v - M) = x0 + (60 * v - M) := by rw [wrap64 (by omega) (by omega)]; omega
          have wD : IntKind.i64.wrap (w * y) = w * y := wrap64 (by omega) (by omega)
          have wE : IntKind.i64.wrap (x1 + w * y) = x1 + w * y := wrap64 (by omega) (by omega)
          refine ⟨_, Weak.trans (Weak.close1 505 i 506 rfl rfl (by decide) hc4) (Weak.trans (Weak.close1 504 1 505 rfl rfl (by decide) rfl) (Weak.close1 1000000000 4 504 rfl rfl (by decide) rfl)), ?_⟩
          simp -implicitDefEqProofs only [eR', go_sem, q0qa, intsO, opR, Nat.reduceBEq]
          refine hn4 _ (k + 1) (Weak.o _ _ [some 1000000000, some 105, some 98] ?_ ?_) (by omega) (by omega)
          . simp -implicitDefEqProofs only [wR', Nat.reduceBEq, Nat.reduceEqDiff, ↓reduceIte, nodes, q0lb h8 (show C.length <= 1000000000000 by omega)]
          . refine ⟨⟨_, rfl, ?_⟩, rfl, ⟨_, rfl, .refl _⟩, rfl, ⟨_, rfl, .refl _⟩, rfl, trivial⟩
            rw [← q14v hnl hnr1, ← q14v hnz' hnz1]
            simp only [q0qa, intsO, List.map_set, List.set_set, wA, wB, wC, wD, wE, nodes, rows]
            exact .refl _
        . have m1 : mixL nr r k = nr := by rw [show k = r.length by omega]; exact q14s hnl
          have m2 : mixL nz z k = nz := by rw [show k = z.length by omega]; exact q14s hnz'
          rw [m1, m2, hmR, hmZ]
          simp -implicitDefEqProofs only [eR', go_sem, nodes, q0qa, intsO, decide_eq_false (show ¬ (k : Int) < (C.length : Int) by omega), opR, Nat.reduceBEq]
          refine he4 _ _ ?_
          simp -implicitDefEqProofs only [eR', go_sem]
          refine hn2 _ (i + 1) (Weak.o _ _ [some 1000000000, some 105] ?_ ?_) (by omega) (by omega)
          . simp -implicitDefEqProofs only [wR', Nat.reduceBEq, Nat.reduceEqDiff, ↓reduceIte, nodes, q0lb h9 (by omega)]
          . exact ⟨⟨_, rfl, .refl _⟩, rfl, ⟨_, rfl, .refl _⟩, rfl, trivial⟩
      . have hil : i = (sets g 1).length := by omega
        have m1 : mixL (q14y g s t 1 x.r1) x.r1 i = q14y g s t 1 x.r1 := by rw [hil, ← lR]; exact q14s (by omega)
        have m2 : mixL (q14z g s t 1 x.s1) x.s1 i = q14z g s t 1 x.s1 := by rw [hil, ← lZ]; exact q14s (by omega)
        rw [m1, m2]
        simp -implicitDefEqProofs only [eR', go_sem, nodes, q0qa, decide_eq_false (show ¬ (i : Int) < ((sets g 1).length : Int) by omega)]
        refine he2 _ _ ?_
        simp -implicitDefEqProofs only [eR', go_sem]
        refine hn _ 2 (Weak.o _ _ [some 1000000000] ?_ ?_) (by omega) (by omega)
        . simp -implicitDefEqProofs only [wR', Nat.reduceBEq, Nat.reduceEqDiff, ↓reduceIte, nodes, w2']
        . exact ⟨⟨_, rfl, .refl _⟩, rfl, trivial⟩
    | 2, _ =>
      simp -implicitDefEqProofs only [eR', go_sem, ssS, nodes, q0qa, decide_eq_false (show ¬ (2 : Int) < 2 by omega), Int.natCast_zero, Int.cast_ofNat_Int]
      refine he _ _ ?_
      simp -implicitDefEqProofs only [eR', go_sem, ssS, nodes, q0qa, opR, Nat.reduceBEq]
end
section
attribute [-go_sem] q0i5 q0id fldC lenC idxC q0ip q0lp
theorem q0ss (g : Gm) (pl n : Int) (hg : q0cf g) : Pure Try.prog 107 [.agg [.sh 5 (chunk q0lu g.nd), .sh 1 (g.w.map ints), .sh 1 (g.v.map ints)], .i pl, .i n] (.i (q15a g pl n)) := by
  refine q0c6 (by simp) ?_
  simp -implicitDefEqProofs only [eR', go_sem, q058]
  refine q006.p (q0fq (q0s2 g hg)) [] rfl Try.call139 ?_ ?_
  . simp -implicitDefEqProofs only [aR', go_sem]
  simp -implicitDefEqProofs only [eR', go_sem]
  rcases Bool.eq_false_or_eq_true (q0fl g) with hgb | hgb
  . rw [hgb]
    refine ⟨fun h => by simp at h, fun _ => ?_⟩
    have hq1 := q0s4 n 0 30
    have hq2 := q0s4 pl 0 1
    by_cases hn : 0 <= n /\ n <= 30
    . rw [decide_eq_true hn] at hq1
      refine q006.p hq1 [] rfl Try.call148 ?_ ?_
      . simp -implicitDefEqProofs only [aR', go_sem]
      simp -implicitDefEqProofs only [eR', go_sem]
      by_cases hp : 0 <= pl /\ pl <= 1
      . rw [decide_eq_true hp] at hq2
        refine q006.p hq2 [] rfl Try.call148 ?_ ?_
        . simp -implicitDefEqProofs only [aR', go_sem]
        simp -implicitDefEqProofs only [eR', go_sem]
        rw [q15d.2 ⟨hgb, hn, hp⟩]
      . rw [decide_eq_false hp] at hq2
        refine q006.p hq2 [] rfl Try.call148 ?_ ?_
        . simp -implicitDefEqProofs only [aR', go_sem]
        simp -implicitDefEqProofs only [eR', go_sem]
        rw [q15c hgb (fun h => hp h.2)]
    . rw [decide_eq_false hn] at hq1
      refine q006.p hq1 [] rfl Try.call148 ?_ ?_
      . simp -implicitDefEqProofs only [aR', go_sem]
      simp -implicitDefEqProofs only [eR', go_sem]
      rw [q15c hgb (fun h => hn h.1)]
  . rw [hgb, q15b hgb]
    exact ⟨fun _ => rfl, fun h => by simp at h⟩
end
end Go.Ab
