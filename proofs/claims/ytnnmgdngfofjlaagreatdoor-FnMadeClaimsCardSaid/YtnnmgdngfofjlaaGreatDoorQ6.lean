/- Contracts: copies of strategies; responses in turn; claims made and joined. -/
import Derived.Test.YtnnmgdngfofjlaaGreatDoorQ5
set_option linter.unusedSimpArgs false
set_option linter.unusedVariables false
set_option maxRecDepth 20000
namespace Go.Ab
open Go.Proofs

section
attribute [-go_sem] q0i5 q0id fldC lenC idxC q0ip q0lp
theorem q25f (s : Int × List (List Int)) (hs : q0q5 s.2) : Fun Tryz.prog 21 [] [.t (q0tu s)] fun o r => o = [] /\ r = q0tt s := by
 obtain ⟨p, m⟩ := s
 obtain ⟨h1, h2⟩ := hs
 (try simp only [] at h1 h2)
 refine q23i (by simp) ?_
 simp -implicitDefEqProofs only [eR', go_sem, q224, q0tu]
 refine SemC.loopR (σ := Nat) (fun i => St.of [(1, .own 1), (2, .own 2), (3, .own 77), (4, .t (.i i))] [(1, .box [.i p, rows m]), (2, .box [.i 0, .v (.slice none 0 0)]), (77, q0qa (m.take i))]) (fun i => i <= m.length) (fun i => m.length - i) 0 (Weak.o _ _ [some 1, some 2, some 5] ?_ ?_) (by omega) fun i hi R hn hr he => ?_
 ·simp -implicitDefEqProofs only [wR', Nat.reduceBEq, Nat.reduceEqDiff, ↓reduceIte, List.take_zero]
 ·exact ⟨⟨_, rfl, .refl _⟩, rfl, ⟨_, rfl, .refl _⟩, rfl, ⟨_, rfl, .refl _⟩, rfl, trivial⟩
 ·rcases Nat.lt_or_ge i m.length with h9 | h9
  ·obtain ⟨r, hr1⟩ : ∃ r, m[i]? = some r := ⟨_, List.getElem?_eq_getElem h9⟩
   simp -implicitDefEqProofs only [eR', go_sem, q0qa, hr1, decide_eq_true (show (i : Int) < (m.length : Int) by omega)]
   refine ⟨by omega, by omega, by omega, ?_⟩
   refine q006.res (q0s5 r (h2 r (List.mem_of_getElem? hr1))) [] rfl Tryz.call44 ?_ (.inl rfl) ?_
   ·simp -implicitDefEqProofs only [aR', go_sem]
   simp -implicitDefEqProofs only [cR', go_sem, intsO]
   refine ⟨by rw [List.length_take]; omega, hn _ (i + 1) (Weak.o _ _ [some 1, some 2, some 21] ?_ ?_) (by omega) (by omega)⟩
   ·simp -implicitDefEqProofs only [wR', Nat.reduceBEq, Nat.reduceEqDiff, ↓reduceIte, q0lb h9 (by omega)]
   ·refine ⟨⟨_, rfl, .refl _⟩, rfl, ⟨_, rfl, .refl _⟩, rfl, ⟨_, rfl, ?_⟩, rfl, trivial⟩
    rw [q0uj hr1, q0qa, List.map_append]; exact .refl _
  ·simp -implicitDefEqProofs only [eR', go_sem, q0qa, decide_eq_false (show ¬ (i : Int) < (m.length : Int) by omega)]
   refine he _ _ ?_
   simp -implicitDefEqProofs only [eR', go_sem]
   rw [List.take_of_length_le (show m.length <= i by omega)]; rfl
theorem q23q (s : Int × List (List Int)) (hs : q0q5 s.2) : Fun Tryz.prog 19 [] [.t (q0tu s)] fun o r => o = [] /\ r = q0tt s := by
 obtain ⟨p, m⟩ := s
 obtain ⟨h1, h2⟩ := hs
 (try simp only [] at h1 h2)
 refine q22t (by simp) ?_
 simp -implicitDefEqProofs only [eR', go_sem, q21f, q0tu]
 refine SemC.loopR (σ := Nat) (fun i => St.of [(2, .own 2), (3, .own 3), (10, .t (rows m)), (11, .t (.i m.length)), (12, .t (.i i))] [(2, .box [.i 0, .v (.slice none 0 0)]), (3, .box [.i p, q0qa (m.take i)])]) (fun i => i <= m.length) (fun i => m.length - i) 0 (Weak.o _ _ [some 2, some 3] ?_ ?_) (by omega) fun i hi R hn hr he => ?_
 ·simp -implicitDefEqProofs only [wR', Nat.reduceBEq, Nat.reduceEqDiff, ↓reduceIte, List.take_zero]
 ·refine ⟨⟨_, rfl, .refl _⟩, rfl, ⟨_, rfl, ?_⟩, rfl, trivial⟩
  exact .bc (.refl _) (.bc (.nilArr 1) (.refl _))
 ·rcases Nat.lt_or_ge i m.length with h9 | h9
  ·obtain ⟨r, hr1⟩ : ∃ r, m[i]? = some r := ⟨_, List.getElem?_eq_getElem h9⟩
   simp -implicitDefEqProofs only [eR', go_sem, q0qa, hr1, decide_eq_true (show (i : Int) < (m.length : Int) by omega)]
   refine ⟨by omega, by omega, by omega, ?_⟩
   refine ⟨_, Weak.open 3 1 500 rfl rfl rfl (by decide) rfl, ?_⟩
   simp -implicitDefEqProofs only [eR', go_sem, List.lookup_cons, beq_self_eq_true, Nat.reduceBEq]
   refine q000.res (q0rq r (h2 r (List.mem_of_getElem? hr1))) [] rfl Tryz.call41 (fun e R' hR => ?_) (.inl rfl) ?_
   ·simp -implicitDefEqProofs only [aR', go_sem]
   simp -implicitDefEqProofs only [cR', go_sem, intsO]
   refine ⟨⟨by rw [List.length_take]; omega, hn _ (i + 1) (Weak.o _ _ [some 2, some 3] ?_ ?_) (by omega) (by omega)⟩, by repeat first | exact q09v.refl _ _ _ | refine q09v.upd _ ?_ (.inr rfl) | refine q09v.upd _ ?_ (.inl (by decide))⟩
   ·simp -implicitDefEqProofs only [wR', Nat.reduceBEq, Nat.reduceEqDiff, ↓reduceIte, q0lb h9 (by omega)]
   ·refine ⟨⟨_, rfl, .refl _⟩, rfl, ⟨_, rfl, ?_⟩, rfl, trivial⟩
    rw [q0uj hr1, q0qa, List.map_append]; exact .refl _
  ·simp -implicitDefEqProofs only [eR', go_sem, q0qa, decide_eq_false (show ¬ (i : Int) < (m.length : Int) by omega)]
   refine he _ _ ?_
   simp -implicitDefEqProofs only [eR', go_sem, opR, Nat.reduceBEq]
   rw [List.take_of_length_le (show m.length <= i by omega)]; rfl
theorem q24j {f : FuncId} {s : Int × List (List Int)} (h : Fun Tryz.prog f [] [.t (q0tu s)] fun o r => o = [] /\ r = q0tt s) : Fun Tryz.prog f [] [.t (.agg [.i s.1, .sh 1 (s.2.map ints)])] fun o r => o = [] /\ r = .agg [.i s.1, .arr 1 (s.2.map intsO)] := h
def mcO (r : Cl × Int) : T := .tup [.agg [.i r.1.f.1, q0qa r.1.f.2, .i r.1.s.1, q0qa r.1.s.2, .i r.1.lo, .i r.1.hi], .i r.2]
def clZ : Cl := ⟨(0, []), (0, []), 0, 0⟩
theorem mcZ (c : Int) : Le (.tup [.agg [.i 0, .v (.slice none 0 0), .i 0, .v (.slice none 0 0), .i 0, .i 0], .i c]) (mcO (clZ, c)) := by
 refine .tup2 (.agg rfl fun i h h' => ?_) (.refl _)
 match i with
 | 0 => exact .refl _
 | 1 => exact .nilArr 1
 | 2 => exact .refl _
 | 3 => exact .nilArr 1
 | 4 => exact .refl _
 | 5 => exact .refl _
def mcR (g : Gm) (s t : Int × List (List Int)) : Cl × Int := if q0nn g s t = true then (⟨s, t, -q01x g s, q01x g t⟩, 0) else (clZ, 1)
theorem q246 (g : Gm) (s t : Int × List (List Int)) (hs : q0qc s.2) (ht : q0qc t.2) : q0qc (mcR g s t).1.f.2 /\ q0qc (mcR g s t).1.s.2 := by
 have hz : q0qc [] := ⟨by simp, by simp [tot]⟩
 unfold mcR
 split
 ·exact ⟨hs, ht⟩
 ·exact ⟨hz, hz⟩
theorem q23n (g : Gm) (s t : Int × List (List Int)) (hg : q0cf g) (hs : q0qc s.2) (ht : q0qc t.2) : Fun Tryz.prog 6 [] [.t (q0ck g), .t (q0tu s), .t (q0tu t)] fun o r => o = [] /\ r = mcO (mcR g s t) := by
 refine Fun.le (Q := fun o r => o = [] /\ (r = mcO (mcR g s t) ∨ (mcR g s t = (clZ, 1) /\ r = .tup [.agg [.i 0, .v (.slice none 0 0), .i 0, .v (.slice none 0 0), .i 0, .i 0], .i 1]))) ?_ ?_
 case refine_2 =>
  rintro o r ⟨rfl, rfl | ⟨h, rfl⟩⟩
  ·exact ⟨_, .refl _, rfl, rfl⟩
  ·exact ⟨_, mcZ 1, rfl, by rw [h]⟩
 refine q22q (by simp) ?_
 have h1 := q24l (q23p g s t hg (q0qe hs) (q0qe ht))
 simp -implicitDefEqProofs only [eR', go_sem, q21c, q0ck, q0tu, nodes]
 cases hb : q0nn g s t <;> rw [hb] at h1
 ·refine q006.p h1 [] rfl Tryz.call17 ?_ ?_
  ·simp -implicitDefEqProofs only [aR', go_sem]
  simp -implicitDefEqProofs only [eR', go_sem]
  exact .inr (by rw [mcR, hb]; rfl)
 ·refine q006.p h1 [] rfl Tryz.call17 ?_ ?_
  ·simp -implicitDefEqProofs only [aR', go_sem]
  simp -implicitDefEqProofs only [eR', go_sem]
  refine q006.p (vb_t (q0f6 g s t hb)) [] rfl Tryz.call18 ?_ ?_
  ·simp -implicitDefEqProofs only [aR', go_sem]
  simp -implicitDefEqProofs only [eR', go_sem]
  refine q000.res (q24j (q23q s (q0qd hs))) [] rfl Tryz.call19 (fun e R' hR => ?_) (.inl rfl) ?_
  ·simp -implicitDefEqProofs only [aR', go_sem]
  simp -implicitDefEqProofs only [cR', go_sem]
  refine q000.res (q24j (q23q t (q0qd ht))) [] rfl Tryz.call19 (fun e R' hR => ?_) (.inl rfl) ?_
  ·simp -implicitDefEqProofs only [aR', go_sem]
  simp -implicitDefEqProofs only [cR', go_sem]
  exact .inl (by rw [mcR, hb]; rfl)
theorem q253 (g : Gm) (s t : Int × List (List Int)) (hg : q0cf g) (hs : q0qc s.2) (ht : q0qc t.2) : Fun Tryz.prog 7 [] [.t (q0ck g), .t (q0tu s), .t (q0tu t)] fun o r => o = [] /\ r = mcO (mcR g s t) := by
 refine Fun.le (Q := fun o r => o = [] /\ (r = mcO (mcR g s t) ∨ (mcR g s t = (clZ, 1) /\ r = .tup [.agg [.i 0, .v (.slice none 0 0), .i 0, .v (.slice none 0 0), .i 0, .i 0], .i 1]))) ?_ ?_
 case refine_2 =>
  rintro o r ⟨rfl, rfl | ⟨h, rfl⟩⟩
  ·exact ⟨_, .refl _, rfl, rfl⟩
  ·exact ⟨_, mcZ 1, rfl, by rw [h]⟩
 refine q236 (by simp) ?_
 have h1 := vb_t (q255 g s t hg (q0qe hs) (q0qe ht))
 simp -implicitDefEqProofs only [eR', go_sem, q21s, q0ck, q0tu, nodes]
 cases hb : q0nn g s t
 ·rw [vbR, hb] at h1
  simp only [tr4, Bool.false_eq_true, if_false] at h1
  refine q006.p h1 [] rfl Tryz.call20 ?_ ?_
  ·simp -implicitDefEqProofs only [aR', go_sem]
  simp -implicitDefEqProofs only [eR', go_sem]
  exact ⟨fun _ => .inr (by rw [mcR, hb]; rfl), fun h => absurd h (by decide)⟩
 ·rw [vbR, hb] at h1
  simp only [tr4, if_true] at h1
  refine q006.p h1 [] rfl Tryz.call20 ?_ ?_
  ·simp -implicitDefEqProofs only [aR', go_sem]
  simp -implicitDefEqProofs only [eR', go_sem]
  refine q000.res (q24j (q25f s (q0qd hs))) [] rfl Tryz.call21 (fun e R' hR => ?_) (.inl rfl) ?_
  ·simp -implicitDefEqProofs only [aR', go_sem]
  simp -implicitDefEqProofs only [cR', go_sem]
  refine q000.res (q24j (q25f t (q0qd ht))) [] rfl Tryz.call21 (fun e R' hR => ?_) (.inl rfl) ?_
  ·simp -implicitDefEqProofs only [aR', go_sem]
  simp -implicitDefEqProofs only [cR', go_sem]
  exact .inl (by rw [mcR, hb]; rfl)
end

def srcT (cs : List Int) (a : Nat × Int) : T := .box [bytes cs, .i a.1, .i a.2]
def q0qx (a : Nat × Int) : Prop := 0 <= a.2 /\ a.2 < 2147483647 /\ a.1 <= 1000000000000
def q0za (l : List Int) : Int := l.foldl (fun s c => (s * 61 + c) % 2147483647) 45007
theorem q0zc (l : List Int) (c : Int) : q0za (l ++ [c]) = (q0za l * 61 + c) % 2147483647 := by simp [q0za, List.foldl_append]
theorem q0zb (l : List Int) : 0 <= q0za l /\ q0za l < 2147483647 := by
 rcases List.eq_nil_or_concat l with rfl | ⟨l, c, rfl⟩
 ·decide
 ·rw [List.concat_eq_append, q0zc]
  omega
def q10m (cs : List Int) (a : Nat × Int) (n : Int) : Int × (Nat × Int) :=
 if n <= 1 then (0, a) else
 let s := (a.2 * 48271 + 29) % 2147483647
 if a.1 < cs.length then ((if n <= 256 /\ (a.1 + 1) % 2 = 0 then cs.getD a.1 0 else s / 31 + cs.getD a.1 0) % n, (a.1 + 1, s)) else ((s / 31) % n, (a.1, s))
theorem q10n {cs : List Int} {a : Nat × Int} {n : Int} (hn : 1 <= n) : 0 <= (q10m cs a n).1 /\ (q10m cs a n).1 < n := by
 unfold q10m
 split
 ·omega
 ·split
  ·exact ⟨Int.emod_nonneg _ (by omega), Int.emod_lt_of_pos _ (by omega)⟩
  ·exact ⟨Int.emod_nonneg _ (by omega), Int.emod_lt_of_pos _ (by omega)⟩

theorem q11z (cs : List Int) (hc : q161 cs) (hl : cs.length <= 1000000000000) : Fun Tryz.prog 16 [] [.t (bytes cs)] fun o r => o = [] /\ r = srcT cs (0, q0za (cs.take 64)) := by
 refine q0zm (by simp) ?_
 simp -implicitDefEqProofs only [eR', go_sem, q0yh, bytes]
 refine SemC.loopR (σ := Nat) (fun i => St.of [(0, .t (bytes cs)), (3, .own 7), (4, .t (.i i))] [(7, .box [bytes cs, .i 0, .i (q0za (cs.take i))])]) (fun i => i <= 64 /\ i <= cs.length) (fun i => 64 - i) 0 (Weak.o _ _ [some 7] ?_ ?_) ⟨by omega, by omega⟩ fun i hi R hn hr he => ?_
 ·simp -implicitDefEqProofs only [wR', Nat.reduceBEq, Nat.reduceEqDiff, ↓reduceIte, bytes]
 ·exact ⟨⟨_, rfl, .refl _⟩, rfl, trivial⟩
 ·simp -implicitDefEqProofs only [eR', go_sem, bytes]
  refine ⟨fun h1 => ⟨fun h2 => ⟨by omega, by omega, by omega, fun c hcc => ⟨by decide, ?_⟩⟩, fun h2 => he _ _ ?_⟩, fun h1 => he _ _ ?_⟩
  ·have hb := hc c (List.mem_of_getElem? hcc)
   have hf := q0zb (cs.take i)
   have e := q0zc (cs.take i) c
   rw [← q0uj hcc] at e
   have hw : (IntKind.i64.wrap (IntKind.i64.wrap (q0za (cs.take i) * 61) + IntKind.i64.wrap c)).tmod 2147483647 = q0za (cs.take (i + 1)) := by
    rw [wrap64 (n := c) (by omega) (by omega), wrap64 (n := q0za (cs.take i) * 61) (by omega) (by omega), wrap64 (n := q0za (cs.take i) * 61 + c) (by omega) (by omega), Int.tmod_eq_emod_of_nonneg (by omega), e]
   rw [hw]
   refine hn _ (i + 1) (Weak.o _ _ [some 7] ?_ ?_) ⟨by omega, by omega⟩ (by omega)
   ·simp -implicitDefEqProofs only [wR', Nat.reduceBEq, Nat.reduceEqDiff, ↓reduceIte, bytes, q0lb (by omega : i < cs.length) (by omega)]
   ·exact ⟨⟨_, rfl, .refl _⟩, rfl, trivial⟩
  ·simp -implicitDefEqProofs only [eR', go_sem, srcT, bytes]
   rw [show i = 64 by omega]; rfl
  ·simp -implicitDefEqProofs only [eR', go_sem, srcT, bytes]
   have e : cs.take i = cs.take 64 := by rw [List.take_of_length_le (by omega), List.take_of_length_le (by omega)]
   rw [e]; rfl
set_option maxRecDepth 10000 in
set_option maxHeartbeats 2000000 in
theorem q120 (cs : List Int) (hc : q161 cs) (hl : cs.length <= 100000000000) (a : Nat × Int) (ha : q0qx a) (n : Int) (hn : n <= 1000000000000) : Fun Tryz.prog 37 [srcT cs a] [.own 1000000000, .t (.i n)] fun o r => o = [srcT cs (q10m cs a n).2] /\ r = .i (q10m cs a n).1 := by
 refine q0zn (by simp) ?_
 simp -implicitDefEqProofs (maxSteps := 1000000) only [eR', go_sem, q0yi, srcT, bytes]
 obtain ⟨a1, a2⟩ := a
 obtain ⟨h1, h2, h3⟩ := ha
 simp only [] at h1 h2 h3
 have hs : (IntKind.i64.wrap (IntKind.i64.wrap (a2 * 48271) + 29)).tmod 2147483647 = (a2 * 48271 + 29) % 2147483647 := by
  rw [wrap64 (n := a2 * 48271) (by omega) (by omega), wrap64 (n := a2 * 48271 + 29) (by omega) (by omega), Int.tmod_eq_emod_of_nonneg (by omega)]
 have hs1 := Int.emod_nonneg (a2 * 48271 + 29) (show (2147483647 : Int) ≠ 0 by decide)
 have hs2 := Int.emod_lt_of_pos (a2 * 48271 + 29) (show (0 : Int) < 2147483647 by decide)
 have hw1 : IntKind.i64.wrap ((a1 : Int) + 1) = ((a1 + 1 : Nat) : Int) := by rw [wrap64 (by omega) (by omega)]; omega
 have hw2 : IntKind.i64.wrap (((a1 + 1 : Nat) : Int) - 1) = (a1 : Int) := by rw [wrap64 (by omega) (by omega)]; omega
 simp only [hs, hw1, hw2, Int.toNat_natCast]
 have hnx : q10m cs (a1, a2) n = if n <= 1 then (0, (a1, a2)) else if a1 < cs.length then ((if n <= 256 /\ (a1 + 1) % 2 = 0 then cs.getD a1 0 else (a2 * 48271 + 29) % 2147483647 / 31 + cs.getD a1 0) % n, (a1 + 1, (a2 * 48271 + 29) % 2147483647)) else (((a2 * 48271 + 29) % 2147483647 / 31) % n, (a1, (a2 * 48271 + 29) % 2147483647)) := rfl
 generalize (a2 * 48271 + 29) % 2147483647 = s at hs1 hs2 hnx ⊢
 have hq : IntKind.i64.wrap (s.tdiv 31) = s / 31 := by rw [Int.tdiv_eq_ediv_of_nonneg hs1, wrap64 (by omega) (by omega)]
 have hq' : s.tdiv 31 = s / 31 := Int.tdiv_eq_ediv_of_nonneg hs1
 have hqs : IntKind.i64.wrap (s / 31) = s / 31 := wrap64 (by omega) (by omega)
 rw [hnx]
 by_cases hn1 : n <= 1
 ·simp only [if_pos hn1]
  exact ⟨fun _ => by simp, fun h => absurd hn1 h⟩
 ·simp only [if_neg hn1]
  refine ⟨fun h => absurd h hn1, fun _ => ⟨by decide, by decide, fun hl1 => ?_, fun hl1 => ?_⟩⟩
  ·have hl2 : a1 < cs.length := by omega
   obtain ⟨c, hcc⟩ : ∃ c, cs[a1]? = some c := ⟨_, List.getElem?_eq_getElem hl2⟩
   have hcb := hc c (List.mem_of_getElem? hcc)
   have hg : cs.getD a1 0 = c := by rw [List.getD_eq_getElem?_getD, hcc]; rfl
   have hwc : IntKind.i64.wrap c = c := wrap64 (by omega) (by omega)
   simp only [if_pos hl2, hcc, hg, Option.some.injEq, forall_eq', hwc]
   have hws : IntKind.i64.wrap (s / 31 + c) = s / 31 + c := wrap64 (by omega) (by omega)
   simp only [hq', hqs, hws]
   refine ⟨by omega, by omega, by omega, fun h256 => ⟨by decide, fun he => ⟨by omega, by omega, by omega, by omega, by first | trivial | rfl, ?_⟩, fun he => ⟨by omega, by first | trivial | rfl, ?_⟩⟩, fun h256 => ⟨by omega, by first | trivial | rfl, ?_⟩⟩
   ·rw [beq_iff_eq, Int.tmod_eq_emod_of_nonneg (by omega)] at he
    rw [if_pos ⟨h256, by omega⟩, Int.tmod_eq_emod_of_nonneg (by omega)]
   ·rw [beq_eq_false_iff_ne, Int.tmod_eq_emod_of_nonneg (by omega)] at he
    rw [if_neg (by omega), Int.tmod_eq_emod_of_nonneg (by omega)]
   ·rw [if_neg (by omega), Int.tmod_eq_emod_of_nonneg (by omega)]
  ·have hl2 : ¬ a1 < cs.length := by omega
   simp only [if_neg hl2, hq', hqs]
   refine ⟨by omega, by first | trivial | rfl, ?_⟩
   rw [Int.tmod_eq_emod_of_nonneg (by omega)]

theorem q10o {cs : List Int} {a : Nat × Int} (hl : cs.length <= 100000000000) (ha : q0qx a) (n : Int) : q0qx (q10m cs a n).2 := by
 obtain ⟨h1, h2, h3⟩ := ha
 have hs1 := Int.emod_nonneg (a.2 * 48271 + 29) (show (2147483647 : Int) ≠ 0 by decide)
 have hs2 := Int.emod_lt_of_pos (a.2 * 48271 + 29) (show (0 : Int) < 2147483647 by decide)
 unfold q10m
 split
 ·exact ⟨h1, h2, h3⟩
 ·split
  ·exact ⟨hs1, hs2, by show a.1 + 1 <= _; omega⟩
  ·exact ⟨hs1, hs2, h3⟩
theorem q11l (l : List Int) : q0qx (0, q0za l) := ⟨(q0zb l).1, (q0zb l).2, Nat.zero_le _⟩
def q115 (cs : List Int) (a : Nat × Int) (l : List Int) : Int × (Nat × Int) := (l.getD (q10m cs a l.length).1.toNat 0, (q10m cs a l.length).2)
theorem q1tf {cs : List Int} {a : Nat × Int} {l : List Int} (h : 1 <= l.length) : (q115 cs a l).1 ∈ l := by
 have hb := q10n (cs := cs) (a := a) (show (1 : Int) <= l.length by omega)
 unfold q115
 rw [List.getD_eq_getElem?_getD, List.getElem?_eq_getElem (show (q10m cs a l.length).1.toNat < l.length by omega)]
 exact List.getElem_mem _
theorem q10p (cs : List Int) (hc : q161 cs) (hl : cs.length <= 100000000000) (a : Nat × Int) (ha : q0qx a) (n : Int) (hn : n <= 1000000000000) : Fun Tryz.prog 37 [.box [bytes cs, .i a.1, .i a.2]] [.own 1000000000, .t (.i n)] fun o r => o = [.box [bytes cs, .i (q10m cs a n).2.1, .i (q10m cs a n).2.2]] /\ r = .i (q10m cs a n).1 := q120 cs hc hl a ha n hn
theorem q116 {cs : List Int} {a : Nat × Int} (hl : cs.length <= 100000000000) (ha : q0qx a) (l : List Int) : q0qx (q115 cs a l).2 := q10o hl ha _
theorem q117 (cs : List Int) (hc : q161 cs) (hl : cs.length <= 100000000000) (a : Nat × Int) (ha : q0qx a) (l : List Int) (h1 : 1 <= l.length) (h2 : l.length <= 1000000) : Fun Tryz.prog 45 [.box [bytes cs, .i a.1, .i a.2], intsO l] [.own 1000000000, .own 1000000001] fun o r => o = [.box [bytes cs, .i (q115 cs a l).2.1, .i (q115 cs a l).2.2], intsO l] /\ r = .i (q115 cs a l).1 := by
 have hb := q10n (cs := cs) (a := a) (show (1 : Int) <= l.length by omega)
 obtain ⟨x, hx⟩ : ∃ x, l[(q10m cs a l.length).1.toNat]? = some x := ⟨_, List.getElem?_eq_getElem (show (q10m cs a l.length).1.toNat < l.length by omega)⟩
 have hg : (q115 cs a l).1 = x := by rw [q115, List.getD_eq_getElem?_getD, hx]; rfl
 refine q0zo (by simp) ?_
 simp -implicitDefEqProofs only [eR', go_sem, q0yj, intsO]
 refine q006.ref (q10p cs hc hl a ha l.length (by omega)) [1000000000] [] rfl Tryz.call37 (by simp) ?_ (by simp) ?_ (.inl rfl) ?_
 ·simp -implicitDefEqProofs only [sR', Nat.reduceEqDiff, ↓reduceIte]
 ·simp -implicitDefEqProofs only [aR', go_sem]
 simp -implicitDefEqProofs only [cR', go_sem]
 refine ⟨by omega, by omega, by omega, fun y hy => ?_⟩
 rw [hx] at hy; cases hy
 exact ⟨rfl, by rw [hg]⟩
def LeL (l l' : List T) : Prop := l.length = l'.length /\ ∀ i (h : i < l.length) (h' : i < l'.length), Le l[i] l'[i]
theorem LeL.refl (l : List T) : LeL l l := ⟨rfl, fun _ _ _ => .refl _⟩
theorem LeL.cons {a a' : T} {l l' : List T} (h : Le a a') (h' : LeL l l') : LeL (a :: l) (a' :: l') := by
 refine ⟨by simp [h'.1], fun i q q' => ?_⟩
 cases i with
 | zero => exact h
 | succ i => simpa using h'.2 i (by simpa using q) (by simpa using q')
theorem LeL.append : ∀ {l l' m m' : List T}, LeL l l' -> LeL m m' -> LeL (l ++ m) (l' ++ m')
 | [], [], _, _, _, h => h
 | [], _ :: _, _, _, h, _ => absurd h.1 (by simp)
 | _ :: _, [], _, _, h, _ => absurd h.1 (by simp)
 | a :: l, a' :: l', m, m', h, h2 => LeL.cons (h.2 0 (by simp) (by simp)) (LeL.append ⟨by have := h.1; simpa using this, fun i q q' => by have := h.2 (i + 1) (by simpa using q) (by simpa using q'); simpa using this⟩ h2)
theorem LeL.arr {s : Nat} {l l' : List T} (h : LeL l l') : Le (.arr s l) (.arr s l') := .arr s h.1 h.2
def q0rx (b : Nat) (l : List Nd) : Prop := l.length <= b /\ ∀ x ∈ l, x.ch.length <= 8
theorem q0yv : ∀ (l : List Nd) (i : Nat) (x : Nd) (ch : List Int), l[i]? = some x -> (chunk q0lv l).set (i * 5 + 4) (intsO ch) = chunk q0lv (l.set i ⟨x.p, x.a, x.b, x.f, ch⟩)
 | [], i, x, ch, h => by simp at h
 | a :: l, 0, x, ch, h => by
   simp at h; subst h
   rw [q069, List.set_cons_zero, q069]; rfl
 | a :: l, i + 1, x, ch, h => by
   rw [q069, List.set_append_right _ _ (by rw [q0lw]; omega), q0lw, show (i + 1) * 5 + 4 - 5 = i * 5 + 4 by omega, q0yv l i x ch (by simpa using h), List.set_cons_succ, q069]
theorem q11s {b : Nat} {l : List Nd} (h : q0rx b l) (i : Nat) (x : Nd) (hx : x.ch.length <= 8) : q0rx b (l.set i x) := by
 refine ⟨by rw [List.length_set]; exact h.1, fun y hy => ?_⟩
 rcases List.mem_or_eq_of_mem_set hy with hy | rfl
 ·exact h.2 y hy
 ·exact hx
section
attribute [-go_sem] q0i5 q0id fldC lenC idxC q0ip
theorem q125 (bet : Int) (hb : 1 <= bet /\ bet <= 1000) (B : Nat) (hB : B <= 1000) (M : Int) (hM : M <= 10000) : ∀ (r : Nat), r <= 2 -> ∀ (l : List Nd) (pl p0 p1 : Int) (ck : Bool), q0rx B l -> l.length + 3 * (r + 1) <= B -> (pl = 0 /\ p0 < p1 ∨ pl = 1 /\ p1 < p0) -> 0 <= p0 -> 0 <= p1 -> p0 + 1000 * (r : Int) <= M -> p1 + 1000 * (r : Int) <= M →
  ∃ l' : List Nd, q0rx (l.length + 3 * (r + 1)) l' /\ l.length < l'.length /\ Fun Tryz.prog 111 [q0m0 l] [.own 1000000000, .t (.i pl), .t (.i p0), .t (.i p1), .t (.i bet), .t (.i r), .t (.b ck)] fun o res => o = [.any] /\ res = q0m0 l'
 | 0, hr, l, pl, p0, p1, ck, hl, hlB, hp, q0, q1, q2, q3 => by
   have hfin : ∀ (a b : Int) (ch : List Int), ch.length <= 8 -> Fun Tryz.prog 111 [q0m0 l] [.own 1000000000, .t (.i pl), .t (.i p0), .t (.i p1), .t (.i bet), .t (.i (0 : Nat)), .t (.b ck)] (fun o res => o = [.any] /\ res = .arr 5 (chunk q0lv l ++ [.i pl, .i p0, .i p1, .i (-1), intsO ch] ++ [.i 2, .i p0, .i p1, .i pl, .v (.slice none 0 0)] ++ [.i 2, .i a, .i b, .i (-1), .v (.slice none 0 0)])) →
     ∃ l' : List Nd, q0rx (l.length + 3 * (0 + 1)) l' /\ l.length < l'.length /\ Fun Tryz.prog 111 [q0m0 l] [.own 1000000000, .t (.i pl), .t (.i p0), .t (.i p1), .t (.i bet), .t (.i (0 : Nat)), .t (.b ck)] fun o res => o = [.any] /\ res = q0m0 l' := fun a b ch hch hF => by
    refine ⟨l ++ [⟨pl, p0, p1, -1, ch⟩, ⟨2, p0, p1, pl, []⟩, ⟨2, a, b, -1, []⟩], ⟨by simp, fun x hx => ?_⟩, by simp, Fun.le hF ?_⟩
    ·simp only [List.mem_append, List.mem_cons, List.not_mem_nil, or_false] at hx
     rcases hx with hx | rfl | rfl | rfl
     ·exact hl.2 x hx
     ·exact hch
     ·simp
     ·simp
    ·rintro o res ⟨rfl, rfl⟩
     refine ⟨_, ?_, rfl, rfl⟩
     rw [q0m0, q067]
     refine LeL.arr ?_
     rw [List.append_assoc, List.append_assoc]
     refine LeL.append (.refl _) ?_
     exact LeL.cons (.refl _) (LeL.cons (.refl _) (LeL.cons (.refl _) (LeL.cons (.refl _) (LeL.cons (.refl _) (LeL.cons (.refl _) (LeL.cons (.refl _) (LeL.cons (.refl _) (LeL.cons (.refl _) (LeL.cons (.nilArr 1) (LeL.cons (.refl _) (LeL.cons (.refl _) (LeL.cons (.refl _) (LeL.cons (.refl _) (LeL.cons (.nilArr 1) (.refl _)))))))))))))))
   have hnl : (chunk q0lv l).length / 5 = l.length := q06a q0lw (by decide) l
   have hnl5 : (chunk q0lv l).length = l.length * 5 := q06d q0lw l
   have hl1 := hl.1
   have hset : ∀ (x y : List T) (c d : T) (z : List T), x.length = l.length * 5 -> y.length = 4 -> (x ++ (y ++ c :: z)).set (l.length * 5 + 4) d = x ++ (y ++ d :: z) := fun x y c d z h1 h2 => by
    rw [List.set_append_right _ _ (by omega), List.set_append_right _ _ (by omega), show l.length * 5 + 4 - x.length - y.length = 0 by omega, List.set_cons_zero]
   rcases hp with ⟨rfl, hp⟩ | ⟨rfl, hp⟩
   ·refine hfin p1 p1 [((l.length * 5 + 5) / 5 : Nat), ((l.length * 5 + 5 + 5) / 5 : Nat)] (by simp) ?_
    refine q0zr (by simp) ?_
    simp -implicitDefEqProofs only [eR', go_sem, q0ym, q0m0, hnl, hnl5, decide_eq_true hp, (show ((0 : Int) == 1) = false from rfl), (show (((0 : Nat) : Int) == 0) = true from rfl), List.length_append, List.length_cons, List.length_nil, Bool.false_eq_true, false_implies, forall_const, true_and]
    refine ⟨by omega, by omega, by omega, by omega, by omega, by omega, ?_⟩
    rw [show l.length * 5 / 5 * 5 + 4 = l.length * 5 + 4 by omega, List.append_assoc, List.append_assoc, List.append_assoc, List.append_assoc]
    congr 1
    exact hset (chunk q0lv l) [T.i 0, T.i p0, T.i p1, T.i (-1)] _ _ _ hnl5 rfl
   ·refine hfin p0 p0 [((l.length * 5 + 5) / 5 : Nat), ((l.length * 5 + 5 + 5) / 5 : Nat)] (by simp) ?_
    refine q0zr (by simp) ?_
    simp -implicitDefEqProofs only [eR', go_sem, q0ym, q0m0, hnl, hnl5, decide_eq_true hp, (show ((1 : Int) == 1) = true from rfl), (show (((0 : Nat) : Int) == 0) = true from rfl), List.length_append, List.length_cons, List.length_nil, Bool.false_eq_true, false_implies, forall_const, true_and]
    refine ⟨by omega, by omega, by omega, by omega, by omega, by omega, ?_⟩
    rw [show l.length * 5 / 5 * 5 + 4 = l.length * 5 + 4 by omega, List.append_assoc, List.append_assoc, List.append_assoc, List.append_assoc]
    congr 1
    exact hset (chunk q0lv l) [T.i 1, T.i p0, T.i p1, T.i (-1)] _ _ _ hnl5 rfl
 | r + 1, hr, l, pl, p0, p1, ck, hl, hlB, hp, q0, q1, q2, q3 => by
   have hnl : (chunk q0lv l).length / 5 = l.length := q06a q0lw (by decide) l
   have hnl5 : (chunk q0lv l).length = l.length * 5 := q06d q0lw l
   have hl1 := hl.1
   have hr0 : (((r + 1 : Nat) : Int) == 0) = false := by simp; omega
   rcases hp with ⟨rfl, hp⟩ | ⟨rfl, hp⟩
   ·obtain ⟨l', hl2, hl3, hrec⟩ := q125 bet hb B hB M hM r (by omega) (l ++ [⟨0, p0, p1, -1, []⟩, ⟨2, p0, p1, 0, []⟩, ⟨2, p1, p1, -1, []⟩]) 1 (p1 + bet) p1 false ⟨by simp; omega, fun x hx => by
     simp only [List.mem_append, List.mem_cons, List.not_mem_nil, or_false] at hx
     rcases hx with hx | rfl | rfl | rfl
     ·exact hl.2 x hx
     all_goals simp⟩ (by simp; omega) (.inr ⟨rfl, by omega⟩) (by omega) q1 (by omega) (by omega)
    simp only [List.length_append, List.length_cons, List.length_nil] at hl2 hl3
    have hnl' : (chunk q0lv l').length = l'.length * 5 := q06d q0lw l'
    obtain ⟨z, hz⟩ : ∃ z, l'[l.length]? = some z := ⟨_, List.getElem?_eq_getElem (by omega)⟩
    refine ⟨l'.set l.length ⟨z.p, z.a, z.b, z.f, [((l.length * 5 + 5) / 5 : Nat), ((l.length * 5 + 5 + 5) / 5 : Nat), ((l.length * 5 + 5 + 5 + 5) / 5 : Nat)]⟩, q11s ⟨by have := hl2.1; omega, hl2.2⟩ _ _ (by simp), by rw [List.length_set]; omega, ?_⟩
    refine q0zr (by simp) ?_
    simp -implicitDefEqProofs only [eR', go_sem, q0ym, q0m0, hnl, hnl5, decide_eq_true hp, (show ((0 : Int) == 1) = false from rfl), (show ((0 : Int) == 0) = true from rfl), hr0, List.length_append, List.length_cons, List.length_nil, Bool.false_eq_true, false_implies, forall_const, true_and]
    have hq : l.length * 5 / 5 = l.length := by omega
    have hw0 : IntKind.i64.wrap (1 - 0) = 1 := by decide
    have hw1 : IntKind.i64.wrap (p1 + bet) = p1 + bet := wrap64 (by omega) (by omega)
    have hw2 : IntKind.i64.wrap (((r + 1 : Nat) : Int) - 1) = (r : Int) := by rw [wrap64 (by omega) (by omega)]; omega
    refine ⟨by omega, by omega, by omega, ?_⟩
    simp only [hw0, hw1, hw2, hq]
    refine q006.weak (Weak.le 66 (t' := q0m0 (l ++ [⟨0, p0, p1, -1, []⟩, ⟨2, p0, p1, 0, []⟩, ⟨2, p1, p1, -1, []⟩])) rfl ?_ rfl) ?_
    ·rw [q0m0, q067, List.append_assoc, List.append_assoc]
     refine LeL.arr (LeL.append (.refl _) ?_)
     exact LeL.cons (.refl _) (LeL.cons (.refl _) (LeL.cons (.refl _) (LeL.cons (.refl _) (LeL.cons (.nilArr 1) (LeL.cons (.refl _) (LeL.cons (.refl _) (LeL.cons (.refl _) (LeL.cons (.refl _) (LeL.cons (.nilArr 1) (LeL.cons (.refl _) (LeL.cons (.refl _) (LeL.cons (.refl _) (LeL.cons (.refl _) (LeL.cons (.nilArr 1) (.refl _)))))))))))))))
    refine q006.ref hrec [66] [] rfl Tryz.call111 (by simp) ?_ (by simp) ?_ (.inl rfl) ?_
    ·simp -implicitDefEqProofs only [sR', Nat.reduceEqDiff, ↓reduceIte]
    ·simp -implicitDefEqProofs only [aR', go_sem]
    simp -implicitDefEqProofs only [cR', go_sem, q0m0]
    refine ⟨by omega, by omega, by omega, ?_⟩
    rw [← q0yv l' l.length z _ hz]; rfl
   ·obtain ⟨l', hl2, hl3, hrec⟩ := q125 bet hb B hB M hM r (by omega) (l ++ [⟨1, p0, p1, -1, []⟩, ⟨2, p0, p1, 1, []⟩, ⟨2, p0, p0, -1, []⟩]) 0 p0 (p0 + bet) false ⟨by simp; omega, fun x hx => by
     simp only [List.mem_append, List.mem_cons, List.not_mem_nil, or_false] at hx
     rcases hx with hx | rfl | rfl | rfl
     ·exact hl.2 x hx
     all_goals simp⟩ (by simp; omega) (.inl ⟨rfl, by omega⟩) q0 (by omega) (by omega) (by omega)
    simp only [List.length_append, List.length_cons, List.length_nil] at hl2 hl3
    have hnl' : (chunk q0lv l').length = l'.length * 5 := q06d q0lw l'
    obtain ⟨z, hz⟩ : ∃ z, l'[l.length]? = some z := ⟨_, List.getElem?_eq_getElem (by omega)⟩
    refine ⟨l'.set l.length ⟨z.p, z.a, z.b, z.f, [((l.length * 5 + 5) / 5 : Nat), ((l.length * 5 + 5 + 5) / 5 : Nat), ((l.length * 5 + 5 + 5 + 5) / 5 : Nat)]⟩, q11s ⟨by have := hl2.1; omega, hl2.2⟩ _ _ (by simp), by rw [List.length_set]; omega, ?_⟩
    refine q0zr (by simp) ?_
    simp -implicitDefEqProofs only [eR', go_sem, q0ym, q0m0, hnl, hnl5, decide_eq_true hp, (show ((1 : Int) == 1) = true from rfl), (show ((1 : Int) == 0) = false from rfl), hr0, List.length_append, List.length_cons, List.length_nil, Bool.false_eq_true, false_implies, forall_const, true_and]
    have hq : l.length * 5 / 5 = l.length := by omega
    have hw0 : IntKind.i64.wrap (1 - 1) = 0 := by decide
    have hw1 : IntKind.i64.wrap (p0 + bet) = p0 + bet := wrap64 (by omega) (by omega)
    have hw2 : IntKind.i64.wrap (((r + 1 : Nat) : Int) - 1) = (r : Int) := by rw [wrap64 (by omega) (by omega)]; omega
    refine ⟨by omega, by omega, by omega, ?_⟩
    simp only [hw0, hw1, hw2, hq]
    refine q006.weak (Weak.le 66 (t' := q0m0 (l ++ [⟨1, p0, p1, -1, []⟩, ⟨2, p0, p1, 1, []⟩, ⟨2, p0, p0, -1, []⟩])) rfl ?_ rfl) ?_
    ·rw [q0m0, q067, List.append_assoc, List.append_assoc]
     refine LeL.arr (LeL.append (.refl _) ?_)
     exact LeL.cons (.refl _) (LeL.cons (.refl _) (LeL.cons (.refl _) (LeL.cons (.refl _) (LeL.cons (.nilArr 1) (LeL.cons (.refl _) (LeL.cons (.refl _) (LeL.cons (.refl _) (LeL.cons (.refl _) (LeL.cons (.nilArr 1) (LeL.cons (.refl _) (LeL.cons (.refl _) (LeL.cons (.refl _) (LeL.cons (.refl _) (LeL.cons (.nilArr 1) (.refl _)))))))))))))))
    refine q006.ref hrec [66] [] rfl Tryz.call111 (by simp) ?_ (by simp) ?_ (.inl rfl) ?_
    ·simp -implicitDefEqProofs only [sR', Nat.reduceEqDiff, ↓reduceIte]
    ·simp -implicitDefEqProofs only [aR', go_sem]
    simp -implicitDefEqProofs only [cR', go_sem, q0m0]
    refine ⟨by omega, by omega, by omega, ?_⟩
    rw [← q0yv l' l.length z _ hz]; rfl
theorem q124 (bet : Int) (hb : 1 <= bet /\ bet <= 1000) (r : Nat) (hr : r <= 2) (l : List Nd) (pl p : Int) (hl : q0rx 900 l) (hp : pl = 0 ∨ pl = 1) (q0 : 0 <= p) (q1 : p <= 1000) :
  ∃ l' : List Nd, q0rx (l.length + 2 + 3 * (r + 1)) l' /\ l.length < l'.length /\ Fun Tryz.prog 111 [q0m0 l] [.own 1000000000, .t (.i pl), .t (.i p), .t (.i p), .t (.i bet), .t (.i r), .t (.b true)] fun o res => o = [.any] /\ res = q0m0 l' := by
 have hnl : (chunk q0lv l).length / 5 = l.length := q06a q0lw (by decide) l
 have hnl5 : (chunk q0lv l).length = l.length * 5 := q06d q0lw l
 have hl1 := hl.1
 have hq : l.length * 5 / 5 = l.length := by omega
 have hw1 : IntKind.i64.wrap (p + bet) = p + bet := wrap64 (by omega) (by omega)
 rcases hp with rfl | rfl
 ·obtain ⟨l', hl2, hl3, hrec⟩ := q125 bet hb 1000 (by omega) 10000 (by omega) r hr (l ++ [⟨0, p, p, -1, []⟩, ⟨2, p, p, -1, []⟩]) 1 (p + bet) p false ⟨by simp; omega, fun x hx => by
   simp only [List.mem_append, List.mem_cons, List.not_mem_nil, or_false] at hx
   rcases hx with hx | rfl | rfl
   ·exact hl.2 x hx
   all_goals simp⟩ (by simp; omega) (.inr ⟨rfl, by omega⟩) (by omega) q0 (by omega) (by omega)
  simp only [List.length_append, List.length_cons, List.length_nil] at hl2 hl3
  have hnl' : (chunk q0lv l').length = l'.length * 5 := q06d q0lw l'
  obtain ⟨z, hz⟩ : ∃ z, l'[l.length]? = some z := ⟨_, List.getElem?_eq_getElem (by omega)⟩
  refine ⟨l'.set l.length ⟨z.p, z.a, z.b, z.f, [((l.length * 5 + 5) / 5 : Nat), ((l.length * 5 + 5 + 5) / 5 : Nat)]⟩, q11s ⟨by have := hl2.1; omega, hl2.2⟩ _ _ (by simp), by rw [List.length_set]; omega, ?_⟩
  refine q0zr (by simp) ?_
  have hw0 : IntKind.i64.wrap (1 - 0) = 1 := by decide
  simp -implicitDefEqProofs only [eR', go_sem, q0ym, q0m0, hnl, hnl5, decide_eq_false (show ¬ p < p by omega), (show ((0 : Int) == 1) = false from rfl), (show ((0 : Int) == 0) = true from rfl), List.length_append, List.length_cons, List.length_nil, Bool.false_eq_true, false_implies, forall_const, true_and]
  refine ⟨by omega, by omega, ?_⟩
  simp only [hw0, hw1, hq]
  refine q006.weak (Weak.le 84 (t' := q0m0 (l ++ [⟨0, p, p, -1, []⟩, ⟨2, p, p, -1, []⟩])) rfl ?_ rfl) ?_
  ·rw [q0m0, q067, List.append_assoc]
   refine LeL.arr (LeL.append (.refl _) ?_)
   exact LeL.cons (.refl _) (LeL.cons (.refl _) (LeL.cons (.refl _) (LeL.cons (.refl _) (LeL.cons (.nilArr 1) (LeL.cons (.refl _) (LeL.cons (.refl _) (LeL.cons (.refl _) (LeL.cons (.refl _) (LeL.cons (.nilArr 1) (.refl _))))))))))
  refine q006.ref hrec [84] [] rfl Tryz.call111 (by simp) ?_ (by simp) ?_ (.inl rfl) ?_
  ·simp -implicitDefEqProofs only [sR', Nat.reduceEqDiff, ↓reduceIte]
  ·simp -implicitDefEqProofs only [aR', go_sem]
  simp -implicitDefEqProofs only [cR', go_sem, q0m0]
  refine ⟨by omega, by omega, by omega, ?_⟩
  rw [← q0yv l' l.length z _ hz]; rfl
 ·obtain ⟨l', hl2, hl3, hrec⟩ := q125 bet hb 1000 (by omega) 10000 (by omega) r hr (l ++ [⟨1, p, p, -1, []⟩, ⟨2, p, p, -1, []⟩]) 0 p (p + bet) false ⟨by simp; omega, fun x hx => by
   simp only [List.mem_append, List.mem_cons, List.not_mem_nil, or_false] at hx
   rcases hx with hx | rfl | rfl
   ·exact hl.2 x hx
   all_goals simp⟩ (by simp; omega) (.inl ⟨rfl, by omega⟩) q0 (by omega) (by omega) (by omega)
  simp only [List.length_append, List.length_cons, List.length_nil] at hl2 hl3
  have hnl' : (chunk q0lv l').length = l'.length * 5 := q06d q0lw l'
  obtain ⟨z, hz⟩ : ∃ z, l'[l.length]? = some z := ⟨_, List.getElem?_eq_getElem (by omega)⟩
  refine ⟨l'.set l.length ⟨z.p, z.a, z.b, z.f, [((l.length * 5 + 5) / 5 : Nat), ((l.length * 5 + 5 + 5) / 5 : Nat)]⟩, q11s ⟨by have := hl2.1; omega, hl2.2⟩ _ _ (by simp), by rw [List.length_set]; omega, ?_⟩
  refine q0zr (by simp) ?_
  have hw0 : IntKind.i64.wrap (1 - 1) = 0 := by decide
  simp -implicitDefEqProofs only [eR', go_sem, q0ym, q0m0, hnl, hnl5, decide_eq_false (show ¬ p < p by omega), (show ((1 : Int) == 1) = true from rfl), (show ((1 : Int) == 0) = false from rfl), List.length_append, List.length_cons, List.length_nil, Bool.false_eq_true, false_implies, forall_const, true_and]
  refine ⟨by omega, by omega, ?_⟩
  simp only [hw0, hw1, hq]
  refine q006.weak (Weak.le 84 (t' := q0m0 (l ++ [⟨1, p, p, -1, []⟩, ⟨2, p, p, -1, []⟩])) rfl ?_ rfl) ?_
  ·rw [q0m0, q067, List.append_assoc]
   refine LeL.arr (LeL.append (.refl _) ?_)
   exact LeL.cons (.refl _) (LeL.cons (.refl _) (LeL.cons (.refl _) (LeL.cons (.refl _) (LeL.cons (.nilArr 1) (LeL.cons (.refl _) (LeL.cons (.refl _) (LeL.cons (.refl _) (LeL.cons (.refl _) (LeL.cons (.nilArr 1) (.refl _))))))))))
  refine q006.ref hrec [84] [] rfl Tryz.call111 (by simp) ?_ (by simp) ?_ (.inl rfl) ?_
  ·simp -implicitDefEqProofs only [sR', Nat.reduceEqDiff, ↓reduceIte]
  ·simp -implicitDefEqProofs only [aR', go_sem]
  simp -implicitDefEqProofs only [cR', go_sem, q0m0]
  refine ⟨by omega, by omega, by omega, ?_⟩
  rw [← q0yv l' l.length z _ hz]; rfl
theorem q123 (bet : Int) (hb : 1 <= bet /\ bet <= 1000) (r : Nat) (hr : r <= 2) (p : Int) (q0 : 0 <= p) (q1 : p <= 1000) :
  ∃ l' : List Nd, q0rx 100 l' /\ 0 < l'.length /\ Fun Tryz.prog 111 [] [.t (.v (.slice none 0 0)), .t (.i 0), .t (.i p), .t (.i p), .t (.i bet), .t (.i r), .t (.b false)] fun o res => o = [] /\ res = q0m0 l' := by
 obtain ⟨l1, hl2, hl3, hC⟩ := q124 bet hb r hr [⟨0, p, p, -1, []⟩] 1 p ⟨by simp, by simp⟩ (.inr rfl) q0 q1
 simp only [List.length_cons, List.length_nil] at hl2 hl3
 have h1 := hl2.1
 obtain ⟨l2, hl5, hl6, hrec⟩ := q125 bet hb 1000 (by omega) 10000 (by omega) r hr l1 1 (p + bet) p false ⟨by omega, hl2.2⟩ (by omega) (.inr ⟨rfl, by omega⟩) (by omega) q0 (by omega) (by omega)
 have hnl' : (chunk q0lv l2).length = l2.length * 5 := q06d q0lw l2
 obtain ⟨z, hz⟩ : ∃ z, l2[0]? = some z := ⟨_, List.getElem?_eq_getElem (by omega)⟩
 refine ⟨l2.set 0 ⟨z.p, z.a, z.b, z.f, [1, ((chunk q0lv l1).length / 5 : Nat)]⟩, q11s ⟨by have := hl5.1; omega, hl5.2⟩ _ _ (by simp), by rw [List.length_set]; omega, ?_⟩
 refine q0zr (by simp) ?_
 have hw1 : IntKind.i64.wrap (p + bet) = p + bet := wrap64 (by omega) (by omega)
 have hw0 : IntKind.i64.wrap (1 - 0) = 1 := by decide
 simp -implicitDefEqProofs only [eR', go_sem, q0ym, q0m0, decide_eq_false (show ¬ p < p by omega), (show ((0 : Int) == 1) = false from rfl), (show ((0 : Int) == 0) = true from rfl), List.length_append, List.length_cons, List.length_nil, Bool.false_eq_true, false_implies, forall_const, true_and]
 simp only [hw0]
 refine q006.weak (Weak.le 27 (t' := q0m0 [⟨0, p, p, -1, []⟩]) rfl ?_ rfl) ?_
 ·exact LeL.arr (LeL.cons (.refl _) (LeL.cons (.refl _) (LeL.cons (.refl _) (LeL.cons (.refl _) (LeL.cons (.nilArr 1) (.refl _))))))
 refine q006.ref hC [27] [] rfl Tryz.call111 (by simp) ?_ (by simp) ?_ (.inl rfl) ?_
 ·simp -implicitDefEqProofs only [sR', Nat.reduceEqDiff, ↓reduceIte]
 ·simp -implicitDefEqProofs only [aR', go_sem]
 simp -implicitDefEqProofs only [cR', go_sem, q0m0, (show ((0 : Int) == 0) = true from rfl), forall_const, Bool.false_eq_true, false_implies, true_and]
 simp only [hw0, hw1]
 simp only [q0m0] at hrec
 refine q006.ref hrec [44] [] rfl Tryz.call111 (by simp) ?_ (by simp) ?_ (.inl rfl) ?_
 ·simp -implicitDefEqProofs only [sR', Nat.reduceEqDiff, ↓reduceIte]
 ·simp -implicitDefEqProofs only [aR', go_sem]
 simp -implicitDefEqProofs only [cR', go_sem]
 refine ⟨by omega, by omega, ?_⟩
 rw [← q0yv l2 0 z _ hz]; rfl
theorem q11u (ante bet : Int) (r : Nat) (h0 : 0 <= ante) (h1 : ante <= 20) (b0 : 1 <= bet) (b1 : bet <= 20) (hr : r <= 1) :
  ∃ l' : List Nd, q0rx 100 l' /\ 0 < l'.length /\ Fun Tryz.prog 102 [] [.t (.i ante), .t (.i bet), .t (.i r)] fun o res => o = [] /\ res = .tup [.agg [q0m0 l'], .i 0] := by
 obtain ⟨l', h1', h2', hG⟩ := q123 bet (by omega) r (by omega) ante h0 (by omega)
 refine ⟨l', h1', h2', ?_⟩
 refine q0zh (by simp) ?_
 simp -implicitDefEqProofs only [eR', go_sem, q0yc]
 have e1 : decide (0 <= ante /\ ante <= 100) = true := decide_eq_true (by omega)
 have e2 : decide (1 <= bet /\ bet <= 100) = true := decide_eq_true (by omega)
 have e3 : decide ((0 : Int) <= (r : Int) /\ (r : Int) <= 2) = true := decide_eq_true (by omega)
 refine q006.p (q0s4 ante 0 100) [] rfl Tryz.call67 ?_ ?_
 ·simp -implicitDefEqProofs only [aR', go_sem]
 simp -implicitDefEqProofs only [eR', go_sem, e1, Bool.not_true]
 refine q006.p (q0s4 bet 1 100) [] rfl Tryz.call67 ?_ ?_
 ·simp -implicitDefEqProofs only [aR', go_sem]
 simp -implicitDefEqProofs only [eR', go_sem, e2, Bool.not_true]
 refine q006.p (q0s4 r 0 2) [] rfl Tryz.call67 ?_ ?_
 ·simp -implicitDefEqProofs only [aR', go_sem]
 simp -implicitDefEqProofs only [eR', go_sem, e3, Bool.not_true]
 have hm : 0 <= bet * ((r : Int) + 1) /\ bet * ((r : Int) + 1) <= 40 := by
  have : (r : Int) = 0 ∨ (r : Int) = 1 := by omega
  rcases this with h | h <;> rw [h] <;> omega
 have hw1 : IntKind.i64.wrap ((r : Int) + 1) = (r : Int) + 1 := wrap64 (by omega) (by omega)
 have hw2 : IntKind.i64.wrap (bet * ((r : Int) + 1)) = bet * ((r : Int) + 1) := wrap64 (by omega) (by omega)
 have hw3 : IntKind.i64.wrap (ante + bet * ((r : Int) + 1)) = ante + bet * ((r : Int) + 1) := wrap64 (by omega) (by omega)
 simp only [hw1, hw2, hw3]
 refine ⟨fun h => by omega, fun _ => ?_⟩
 refine q006.res hG [] rfl Tryz.call111 ?_ (.inl rfl) ?_
 ·simp -implicitDefEqProofs only [aR', go_sem]
 simp -implicitDefEqProofs only [cR', go_sem, q0m0]
end
def rndN : Nat -> Nat
 | 0 => 1
 | d + 1 => 1 + 3 * rndN d
theorem q11g : ∀ d, d + 1 <= rndN d
 | 0 => Nat.le_refl _
 | d + 1 => by have := q11g d; rw [rndN]; omega
def q11b (cs : List Int) (l : List Nd) (z : Int × (Nat × Int)) : List Nd × (Nat × Int) :=
 if 0 <= IntKind.i64.wrap ((q10m cs z.2 3).1 - 1) then (l ++ [⟨2, z.1, (q10m cs (q10m cs z.2 3).2 6).1, IntKind.i64.wrap ((q10m cs z.2 3).1 - 1), []⟩], (q10m cs (q10m cs z.2 3).2 6).2)
 else (l ++ [⟨2, z.1, z.1, IntKind.i64.wrap ((q10m cs z.2 3).1 - 1), []⟩], (q10m cs z.2 3).2)
def q11j (f : List Nd × (Nat × Int) -> List Nd × (Nat × Int)) (s : (List Nd × (Nat × Int)) × List Int) : (List Nd × (Nat × Int)) × List Int := (f (s.1.1, s.1.2), s.2 ++ [(s.1.1.length : Int)])
def q11e (f : List Nd × (Nat × Int) -> List Nd × (Nat × Int)) (s : (List Nd × (Nat × Int)) × List Int) : Nat -> (List Nd × (Nat × Int)) × List Int
 | 0 => s
 | k + 1 => q11j f (q11e f s k)
def q11m (l : List Nd) (i : Nat) (ch : List Int) : List Nd := match l[i]? with | some z => l.set i ⟨z.p, z.a, z.b, z.f, ch⟩ | none => l
def q11a (cs : List Int) (l : List Nd) (paid : Int) (b : Nat × Int) : (List Nd × (Nat × Int)) × List Int := ((l ++ [⟨(q10m cs b 2).1, paid, paid, -1, []⟩], (q10m cs (q10m cs b 2).2 3).2), [])
def q11h (cs : List Int) (f : List Nd × (Nat × Int) -> List Nd × (Nat × Int)) (l : List Nd) (paid : Int) (b : Nat × Int) : List Nd × (Nat × Int) :=
 (q11m (q11e f (q11a cs l paid b) (1 + (q10m cs (q10m cs b 2).2 3).1).toNat).1.1 l.length (q11e f (q11a cs l paid b) (1 + (q10m cs (q10m cs b 2).2 3).1).toNat).2, (q11e f (q11a cs l paid b) (1 + (q10m cs (q10m cs b 2).2 3).1).toNat).1.2)
def rndF (cs : List Int) : Nat -> List Nd × (Nat × Int) -> List Nd × (Nat × Int)
 | 0, s => q11b cs s.1 (q10m cs s.2 6)
 | d + 1, s => if 30 < s.1.length then q11b cs s.1 (q10m cs s.2 6)
   else if 0 < s.1.length then (if (q10m cs (q10m cs s.2 6).2 3).1 = 0 then q11b cs s.1 ((q10m cs s.2 6).1, (q10m cs (q10m cs s.2 6).2 3).2) else q11h cs (rndF cs d) s.1 (q10m cs s.2 6).1 (q10m cs (q10m cs s.2 6).2 3).2)
   else q11h cs (rndF cs d) s.1 (q10m cs s.2 6).1 (q10m cs s.2 6).2
def grown (b : Nat) (l : List Nd) (x : List Nd × (Nat × Int)) : Prop := q0rx (l.length + b) x.1 /\ l.length < x.1.length /\ q0qx x.2
theorem mem8 {l : List Nd} {z : Nd} (h : ∀ x ∈ l, x.ch.length <= 8) (hz : z.ch.length <= 8) : ∀ x ∈ l ++ [z], x.ch.length <= 8 := by
 intro x hx
 rcases List.mem_append.1 hx with hx | hx
 ·exact h x hx
 ·simp at hx; rw [hx]; exact hz
theorem q11c {cs : List Int} (hl : cs.length <= 100000000000) {l : List Nd} (hs : ∀ x ∈ l, x.ch.length <= 8) {z : Int × (Nat × Int)} (hz : q0qx z.2) : grown 1 l (q11b cs l z) := by
 have h3 := q10o (cs := cs) hl hz 3
 have h6 := q10o (cs := cs) hl h3 6
 unfold q11b
 split
 ·exact ⟨⟨by simp, mem8 hs (by simp)⟩, by simp, h6⟩
 ·exact ⟨⟨by simp, mem8 hs (by simp)⟩, by simp, h3⟩
theorem q11f {f : List Nd × (Nat × Int) -> List Nd × (Nat × Int)} {b : Nat} {s : (List Nd × (Nat × Int)) × List Int} (hs : ∀ x ∈ s.1.1, x.ch.length <= 8) (hb : q0qx s.1.2) (hc : s.2 = []) (B : Nat) : ∀ k, k <= 3 -> s.1.1.length + k * b <= B -> (∀ m e, q0qx e -> (∀ x ∈ m, x.ch.length <= 8) -> m.length + b <= B -> grown b m (f (m, e))) →
  (q11e f s k).1.1.length <= s.1.1.length + k * b /\ (∀ x ∈ (q11e f s k).1.1, x.ch.length <= 8) /\ s.1.1.length <= (q11e f s k).1.1.length /\ q0qx (q11e f s k).1.2 /\ (q11e f s k).2.length = k
 | 0, _, _, _ => by
   simp only [q11e]
   exact ⟨by omega, hs, Nat.le_refl _, hb, by rw [hc]; rfl⟩
 | k + 1, hk, hB, hf => by
   have e : (k + 1) * b = k * b + b := by rw [Nat.add_mul]; omega
   obtain ⟨h1, h2, h3, h4, h5⟩ := q11f hs hb hc B k (by omega) (by omega) hf
   obtain ⟨g1, g2, g3⟩ := hf (q11e f s k).1.1 (q11e f s k).1.2 h4 h2 (by omega)
   simp only [q11e, q11j]
   refine ⟨?_, g1.2, by have := g2; omega, g3, by simp [h5]⟩
   have := g1.1
   rw [e]; omega
theorem q11n {b : Nat} {l : List Nd} (h : q0rx b l) (i : Nat) {ch : List Int} (hc : ch.length <= 8) : q0rx b (q11m l i ch) /\ (q11m l i ch).length = l.length := by
 unfold q11m
 split
 ·exact ⟨q11s h _ _ hc, by rw [List.length_set]⟩
 ·exact ⟨h, rfl⟩
theorem q11i {cs : List Int} (hl : cs.length <= 100000000000) {f : List Nd × (Nat × Int) -> List Nd × (Nat × Int)} {b B : Nat} (hf : ∀ m e, q0qx e -> (∀ x ∈ m, x.ch.length <= 8) -> m.length + b <= B -> grown b m (f (m, e))) {l : List Nd} (hs : ∀ x ∈ l, x.ch.length <= 8) {paid : Int} {e : Nat × Int} (he : q0qx e) (hB : l.length + 1 + 3 * b <= B) : grown (1 + 3 * b) l (q11h cs f l paid e) := by
 have h2 := q10o (cs := cs) hl he 2
 have h3 := q10o (cs := cs) hl h2 3
 have hb3 := q10n (cs := cs) (a := (q10m cs e 2).2) (n := 3) (by omega)
 obtain ⟨K, hK⟩ : ∃ K : Nat, (1 + (q10m cs (q10m cs e 2).2 3).1).toNat = K := ⟨_, rfl⟩
 have hK3 : 1 <= K /\ K <= 3 := by omega
 have hKb : K * b <= 3 * b := Nat.mul_le_mul_right _ hK3.2
 obtain ⟨q1, q2, q3, q4, q5⟩ := q11f (s := q11a cs l paid e) (b := b) (f := f) (mem8 hs (by simp)) h3 rfl B K hK3.2 (by simp [q11a]; omega) hf
 have hlen : (q11a cs l paid e).1.1.length = l.length + 1 := by simp [q11a]
 rw [hlen] at q1 q3
 unfold q11h
 rw [hK]
 have hsm : q0rx (l.length + (1 + 3 * b)) (q11e f (q11a cs l paid e) K).1.1 := ⟨by omega, q2⟩
 obtain ⟨s1, s2⟩ := q11n hsm l.length (ch := (q11e f (q11a cs l paid e) K).2) (by omega)
 exact ⟨s1, by show l.length < (q11m _ _ _).length; rw [s2]; omega, q4⟩
theorem q11d {cs : List Int} (hl : cs.length <= 100000000000) : ∀ (d : Nat) (l : List Nd) (a : Nat × Int), q0qx a -> (∀ x ∈ l, x.ch.length <= 8) -> grown (rndN d) l (rndF cs d (l, a))
 | 0, l, a, ha, hs => q11c hl hs (q10o hl ha 6)
 | d + 1, l, a, ha, hs => by
   have h6 := q10o (cs := cs) hl ha 6
   have h3 := q10o (cs := cs) hl h6 3
   have up : ∀ x, grown 1 l x -> grown (rndN (d + 1)) l x := fun x h => ⟨⟨by have := h.1.1; rw [rndN]; omega, h.1.2⟩, h.2⟩
   have hf : ∀ m e, q0qx e -> (∀ x ∈ m, x.ch.length <= 8) -> m.length + rndN d <= l.length + 1 + 3 * rndN d -> grown (rndN d) m (rndF cs d (m, e)) := fun m e he hm _ => q11d hl d m e he hm
   rw [rndF]
   split
   ·exact up _ (q11c hl hs h6)
   ·split
    ·split
     ·exact up _ (q11c hl hs h3)
     ·exact q11i hl hf hs h3 (Nat.le_refl _)
    ·exact q11i hl hf hs h6 (Nat.le_refl _)
section
attribute [-go_sem] q0i5 q0id fldC lenC idxC q0ip
theorem q126 (cs : List Int) (hc : q161 cs) (hl : cs.length <= 100000000000) (B : Nat) (hB0 : B <= 1000) : ∀ (d : Nat) (l : List Nd) (a : Nat × Int), q0qx a -> q0rx B l -> l.length + rndN d <= B →
  Fun Tryz.prog 105 [.box [bytes cs, .i a.1, .i a.2], q0m0 l] [.own 1000000000, .own 1000000001, .t (.i d)] fun o res => o = [.box [bytes cs, .i (rndF cs d (l, a)).2.1, .i (rndF cs d (l, a)).2.2], .any] /\ res = q0m0 (rndF cs d (l, a)).1 := by
 intro d l a ha hs hb
 refine Fun.le (Q := fun o res => o = [.box [bytes cs, .i (rndF cs d (l, a)).2.1, .i (rndF cs d (l, a)).2.2], .any] /\ (res = q0m0 (rndF cs d (l, a)).1 ∨ ∃ p q f, (rndF cs d (l, a)).1 = l ++ [⟨2, p, q, f, []⟩] /\ res = .arr 5 (chunk q0lv l ++ [.i 2, .i p, .i q, .i f, .v (.slice none 0 0)]))) ?_ ?_
 rotate_left
 ·rintro o res ⟨rfl, rfl | ⟨p, q, f, e, rfl⟩⟩
  ·exact ⟨_, .refl _, rfl, rfl⟩
  ·refine ⟨q0m0 (rndF cs d (l, a)).1, ?_, rfl, rfl⟩
   rw [e, q0m0, q067]
   exact LeL.arr (LeL.append (.refl _) (LeL.cons (.refl _) (LeL.cons (.refl _) (LeL.cons (.refl _) (LeL.cons (.refl _) (LeL.cons (.nilArr 1) (.refl _)))))))
 have hnl : (chunk q0lv l).length / 5 = l.length := q06a q0lw (by decide) l
 have hnl5 : (chunk q0lv l).length = l.length * 5 := q06d q0lw l
 have hl1 := hs.1
 match d, hb with
 | 0, hb =>
   refine q0zs (by simp) ?_
   simp -implicitDefEqProofs only [eR', go_sem, q0yn, q0m0, hnl, hnl5, (show (((0 : Nat) : Int) == 0) = true from rfl)]
   refine q006.ref (q10p cs hc hl a ha 6 (by omega)) [1000000000] [] rfl Tryz.call37 (by simp) ?_ (by simp) ?_ (.inl rfl) ?_
   ·simp -implicitDefEqProofs only [sR', Nat.reduceEqDiff, ↓reduceIte]
   ·simp -implicitDefEqProofs only [aR', go_sem]
   simp -implicitDefEqProofs only [cR', go_sem]
   have hs2 := q10o (cs := cs) hl ha 6
   generalize hz : q10m cs a 6 = z at hs2 ⊢
   obtain ⟨paid, b⟩ := z
   simp only [] at hs2 ⊢
   refine ⟨fun h => absurd h (by decide), fun _ => ?_⟩
   refine q006.ref (q10p cs hc hl b hs2 3 (by omega)) [1000000000] [] rfl Tryz.call37 (by simp) ?_ (by simp) ?_ (.inl rfl) ?_
   ·simp -implicitDefEqProofs only [sR', Nat.reduceEqDiff, ↓reduceIte]
   ·simp -implicitDefEqProofs only [aR', go_sem]
   simp -implicitDefEqProofs only [cR', go_sem]
   have hs3 := q10o (cs := cs) hl hs2 3
   generalize hz3 : q10m cs b 3 = z at hs3 ⊢
   obtain ⟨f, b3⟩ := z
   simp only [] at hs3 ⊢
   have hF := (show rndF cs 0 (l, a) = q11b cs l (paid, b) by rw [rndF, hz])
   refine ⟨fun h => ?_, fun h => ?_⟩
   ·refine q006.ref (q10p cs hc hl b3 hs3 6 (by omega)) [1000000000] [] rfl Tryz.call37 (by simp) ?_ (by simp) ?_ (.inl rfl) ?_
    ·simp -implicitDefEqProofs only [sR', Nat.reduceEqDiff, ↓reduceIte]
    ·simp -implicitDefEqProofs only [aR', go_sem]
    simp -implicitDefEqProofs only [cR', go_sem]
    have hE : q11b cs l (paid, b) = (l ++ [⟨2, paid, (q10m cs b3 6).1, IntKind.i64.wrap (f - 1), []⟩], (q10m cs b3 6).2) := by
     simp only [q11b, hz3]; exact if_pos h
    rw [hF, hE]
    exact ⟨by omega, rfl, .inr ⟨paid, _, _, rfl, rfl⟩⟩
   ·have hE : q11b cs l (paid, b) = (l ++ [⟨2, paid, paid, IntKind.i64.wrap (f - 1), []⟩], b3) := by
     simp only [q11b, hz3]; exact if_neg h
    rw [hF, hE]
    exact ⟨by omega, rfl, .inr ⟨paid, _, _, rfl, rfl⟩⟩
 | d + 1, hb =>
   have hB := hb
   have hdg := q11g d
   simp only [rndN] at hB
   have hd0 : (((d + 1 : Nat) : Int) == 0) = false := by simp; omega
   refine q0zs (by simp) ?_
   simp -implicitDefEqProofs only [eR', go_sem, q0yn, q0m0, hnl, hnl5, hd0]
   refine q006.ref (q10p cs hc hl a ha 6 (by omega)) [1000000000] [] rfl Tryz.call37 (by simp) ?_ (by simp) ?_ (.inl rfl) ?_
   ·simp -implicitDefEqProofs only [sR', Nat.reduceEqDiff, ↓reduceIte]
   ·simp -implicitDefEqProofs only [aR', go_sem]
   simp -implicitDefEqProofs only [cR', go_sem, hd0, hnl]
   have hs2 := q10o (cs := cs) hl ha 6
   generalize hz : q10m cs a 6 = z at hs2 ⊢
   obtain ⟨paid, b⟩ := z
   simp only [] at hs2 ⊢
   refine ⟨fun h30 => ⟨fun h0 => ?_, fun h0 => ?_⟩, fun h30 => ?_⟩
   ·refine q006.ref (q10p cs hc hl b hs2 3 (by omega)) [1000000000] [] rfl Tryz.call37 (by simp) ?_ (by simp) ?_ (.inl rfl) ?_
    ·simp -implicitDefEqProofs only [sR', Nat.reduceEqDiff, ↓reduceIte]
    ·simp -implicitDefEqProofs only [aR', go_sem]
    simp -implicitDefEqProofs only [cR', go_sem]
    have hsd := q10o (cs := cs) hl hs2 3
    generalize hzd : q10m cs b 3 = z at hsd ⊢
    obtain ⟨k, bd⟩ := z
    simp only [] at hsd ⊢
    refine ⟨fun hk => ?_, fun hk => ?_⟩
    ·refine q006.ref (q10p cs hc hl bd hsd 3 (by omega)) [1000000000] [] rfl Tryz.call37 (by simp) ?_ (by simp) ?_ (.inl rfl) ?_
     ·simp -implicitDefEqProofs only [sR', Nat.reduceEqDiff, ↓reduceIte]
     ·simp -implicitDefEqProofs only [aR', go_sem]
     simp -implicitDefEqProofs only [cR', go_sem]
     have hs3 := q10o (cs := cs) hl hsd 3
     generalize hz3 : q10m cs bd 3 = z at hs3 ⊢
     obtain ⟨f, b3⟩ := z
     simp only [] at hs3 ⊢
     have hF := (show rndF cs (d + 1) (l, a) = q11b cs l (paid, bd) by rw [rndF, if_neg (show ¬ 30 < l.length by omega), if_pos (show 0 < l.length by omega), hz]; simp only [hzd]; exact if_pos (by simpa using hk))
     refine ⟨fun h => ?_, fun h => ?_⟩
     ·refine q006.ref (q10p cs hc hl b3 hs3 6 (by omega)) [1000000000] [] rfl Tryz.call37 (by simp) ?_ (by simp) ?_ (.inl rfl) ?_
      ·simp -implicitDefEqProofs only [sR', Nat.reduceEqDiff, ↓reduceIte]
      ·simp -implicitDefEqProofs only [aR', go_sem]
      simp -implicitDefEqProofs only [cR', go_sem]
      have hE : q11b cs l (paid, bd) = (l ++ [⟨2, paid, (q10m cs b3 6).1, IntKind.i64.wrap (f - 1), []⟩], (q10m cs b3 6).2) := by
       simp only [q11b, hz3]; exact if_pos h
      rw [hF, hE]
      exact ⟨by omega, rfl, .inr ⟨paid, _, _, rfl, rfl⟩⟩
     ·have hE : q11b cs l (paid, bd) = (l ++ [⟨2, paid, paid, IntKind.i64.wrap (f - 1), []⟩], b3) := by
       simp only [q11b, hz3]; exact if_neg h
      rw [hF, hE]
      exact ⟨by omega, rfl, .inr ⟨paid, _, _, rfl, rfl⟩⟩
    ·refine q006.ref (q10p cs hc hl bd hsd 2 (by omega)) [1000000000] [] rfl Tryz.call37 (by simp) ?_ (by simp) ?_ (.inl rfl) ?_
     ·simp -implicitDefEqProofs only [sR', Nat.reduceEqDiff, ↓reduceIte]
     ·simp -implicitDefEqProofs only [aR', go_sem]
     simp -implicitDefEqProofs only [cR', go_sem, List.length_append, List.length_cons, List.length_nil, hnl5]
     have hs3 := q10o (cs := cs) hl hsd 2
     have hb4 := q10n (cs := cs) (a := (q10m cs bd 2).2) (n := 3) (by omega)
     have hs4 := q10o (cs := cs) hl hs3 3
     have hF := (show rndF cs (d + 1) (l, a) = q11h cs (rndF cs d) l paid bd by rw [rndF, if_neg (show ¬ 30 < l.length by omega), if_pos (show 0 < l.length by omega), hz]; simp only [hzd]; exact if_neg (by simpa using hk))
     obtain ⟨K, hK⟩ : ∃ K : Nat, (1 + (q10m cs (q10m cs bd 2).2 3).1).toNat = K := ⟨_, rfl⟩
     have hKi : 1 + (q10m cs (q10m cs bd 2).2 3).1 = (K : Int) := by omega
     have hK3 : 1 <= K /\ K <= 3 := by omega
     have hnode : q11h cs (rndF cs d) l paid bd = (q11m (q11e (rndF cs d) (q11a cs l paid bd) K).1.1 l.length (q11e (rndF cs d) (q11a cs l paid bd) K).2, (q11e (rndF cs d) (q11a cs l paid bd) K).1.2) := by rw [q11h, hK]
     have hloop := fun i (hi : i <= K) => q11f (s := q11a cs l paid bd) (b := rndN d) (f := rndF cs d) (mem8 hs.2 (by simp)) hs4 rfl B i (by omega) (by have := Nat.mul_le_mul_right (rndN d) (show i <= 3 by omega); simp [q11a]; omega) (fun m e he hm _ => q11d hl d m e he hm)
     refine ⟨by omega, ?_⟩
     refine q006.weak (Weak.le 56 (t' := q0m0 (l ++ [⟨(q10m cs bd 2).1, paid, paid, -1, []⟩])) rfl ?_ rfl) ?_
     ·rw [q0m0, q067]
      exact LeL.arr (LeL.append (.refl _) (LeL.cons (.refl _) (LeL.cons (.refl _) (LeL.cons (.refl _) (LeL.cons (.refl _) (LeL.cons (.nilArr 1) (.refl _)))))))
     refine q006.ref (q10p cs hc hl (q10m cs bd 2).2 hs3 3 (by omega)) [1000000000] [] rfl Tryz.call37 (by simp) ?_ (by simp) ?_ (.inl rfl) ?_
     ·simp -implicitDefEqProofs only [sR', Nat.reduceEqDiff, ↓reduceIte]
     ·simp -implicitDefEqProofs only [aR', go_sem]
     simp -implicitDefEqProofs only [cR', go_sem]
     have hwq : IntKind.i64.wrap (1 + (q10m cs (q10m cs bd 2).2 3).1) = (K : Int) := by rw [wrap64 (by omega) (by omega)]; exact hKi
     have hwd : IntKind.i64.wrap (((d + 1 : Nat) : Int) - 1) = (d : Int) := by rw [wrap64 (by omega) (by omega)]; omega
     have hL0 : q11e (rndF cs d) (q11a cs l paid bd) 0 = ((l ++ [⟨(q10m cs bd 2).1, paid, paid, -1, []⟩], (q10m cs (q10m cs bd 2).2 3).2), []) := rfl
     have hLs : ∀ i, q11e (rndF cs d) (q11a cs l paid bd) (i + 1) = q11j (rndF cs d) (q11e (rndF cs d) (q11a cs l paid bd) i) := fun i => rfl
     have hl0 : (q11a cs l paid bd).1.1.length = l.length + 1 := by simp [q11a]
     generalize hLL : q11e (rndF cs d) (q11a cs l paid bd) = L at hL0 hLs hnode hloop
     refine SemC.loopR (σ := Nat) (fun i => St.ofD [(0, .own 1000000000), (1, .own 196), (2, .t (.i ((d + 1 : Nat) : Int))), (7, .t (.i l.length)), (10, .own 197), (11, .t (.i ((K : Int) - i)))] [(1000000000, .box [bytes cs, .i (L i).1.2.1, .i (L i).1.2.2]), (196, q0m0 (L i).1.1), (197, intsO (L i).2)] 1000000001) (fun i => i <= K) (fun i => 3 - i) 0 (Weak.ofD _ _ _ [some 1000000000, some 56, some 57] (by simp) (by simp) rfl ?_ ?_) (by omega) fun i hi R hn' hr he => ?_
     ·simp -implicitDefEqProofs only [wR', Nat.reduceBEq, Nat.reduceEqDiff, ↓reduceIte, hwq, Int.sub_zero, Int.natCast_zero, Int.cast_ofNat_Int, show l.length * 5 / 5 = l.length by omega]
     ·rw [hL0]; exact ⟨⟨_, rfl, .refl _⟩, rfl, ⟨_, rfl, .refl _⟩, rfl, ⟨_, rfl, .refl _⟩, rfl, trivial⟩
     obtain ⟨i1, i2, i3, i4, i5⟩ := hloop i hi
     rw [hl0] at i1 i3
     have hi3 := Nat.mul_le_mul_right (rndN d) (show i <= 3 by omega)
     have hml : (chunk q0lv (L i).1.1).length / 5 = (L i).1.1.length := q06a q0lw (by decide) _
     have hml5 : (chunk q0lv (L i).1.1).length = (L i).1.1.length * 5 := q06d q0lw _
     rcases Nat.lt_or_ge i K with h9 | h9
     ·simp -implicitDefEqProofs only [eR', go_sem, q0m0, intsO, hml, hml5, decide_eq_true (show 0 < (K : Int) - (i : Int) by omega), List.length_map]
      have hi4 := Nat.mul_le_mul_right (rndN d) (show i + 1 <= 3 by omega)
      rw [Nat.add_mul, Nat.one_mul] at hi4
      refine ⟨by omega, ?_⟩
      simp only [hwd]
      have hrec := q126 cs hc hl B hB0 d (L i).1.1 (L i).1.2 i4 ⟨by omega, i2⟩ (by omega)
      simp only [q0m0] at hrec
      refine q006.ref hrec [1000000000, 196] [] rfl Tryz.call105 (by simp) ?_ (by simp) ?_ (.inl rfl) ?_
      ·simp -implicitDefEqProofs only [sR', Nat.reduceEqDiff, ↓reduceIte]
      ·simp -implicitDefEqProofs only [aR', go_sem]
      simp -implicitDefEqProofs only [cR', go_sem]
      refine hn' _ (i + 1) (Weak.ofD _ _ _ [some 1000000000, some 74, some 69] (by simp) (by simp) rfl ?_ ?_) (by omega) (by omega)
      ·simp -implicitDefEqProofs only [wR', Nat.reduceBEq, Nat.reduceEqDiff, ↓reduceIte, show IntKind.i64.wrap ((K : Int) - (i : Int) - 1) = (K : Int) - ((i + 1 : Nat) : Int) by rw [wrap64 (by omega) (by omega)]; omega]
      ·rw [hLs]
       refine ⟨⟨_, rfl, .refl _⟩, rfl, ⟨_, rfl, .refl _⟩, rfl, ⟨_, rfl, ?_⟩, rfl, trivial⟩
       simp only [q11j, intsO, List.map_append, List.map_cons, List.map_nil, show (L i).1.1.length * 5 / 5 = (L i).1.1.length by omega]; exact .refl _
     ·simp -implicitDefEqProofs only [eR', go_sem, q0m0, intsO, hml, hml5, decide_eq_false (show ¬ 0 < (K : Int) - (i : Int) by omega), List.length_map]
      refine he _ _ ?_
      simp -implicitDefEqProofs only [eR', go_sem, q0m0, intsO, hml, hml5]
      obtain rfl : i = K := by omega
      obtain ⟨z, hz⟩ : ∃ z, (L i).1.1[l.length]? = some z := ⟨_, List.getElem?_eq_getElem (by omega)⟩
      refine ⟨by omega, by omega, by omega, ?_⟩
      rw [hF, hnode]
      refine ⟨rfl, .inl ?_⟩
      simp only [q11m, hz]
      rw [← q0yv (L i).1.1 l.length z _ hz]; rfl
   ·refine q006.ref (q10p cs hc hl b hs2 2 (by omega)) [1000000000] [] rfl Tryz.call37 (by simp) ?_ (by simp) ?_ (.inl rfl) ?_
    ·simp -implicitDefEqProofs only [sR', Nat.reduceEqDiff, ↓reduceIte]
    ·simp -implicitDefEqProofs only [aR', go_sem]
    simp -implicitDefEqProofs only [cR', go_sem, List.length_append, List.length_cons, List.length_nil, hnl5]
    have hs3 := q10o (cs := cs) hl hs2 2
    have hb4 := q10n (cs := cs) (a := (q10m cs b 2).2) (n := 3) (by omega)
    have hs4 := q10o (cs := cs) hl hs3 3
    have hF := (show rndF cs (d + 1) (l, a) = q11h cs (rndF cs d) l paid b by rw [rndF, if_neg (show ¬ 30 < l.length by omega), if_neg (show ¬ 0 < l.length by omega), hz])
    obtain ⟨K, hK⟩ : ∃ K : Nat, (1 + (q10m cs (q10m cs b 2).2 3).1).toNat = K := ⟨_, rfl⟩
    have hKi : 1 + (q10m cs (q10m cs b 2).2 3).1 = (K : Int) := by omega
    have hK3 : 1 <= K /\ K <= 3 := by omega
    have hnode : q11h cs (rndF cs d) l paid b = (q11m (q11e (rndF cs d) (q11a cs l paid b) K).1.1 l.length (q11e (rndF cs d) (q11a cs l paid b) K).2, (q11e (rndF cs d) (q11a cs l paid b) K).1.2) := by rw [q11h, hK]
    have hloop := fun i (hi : i <= K) => q11f (s := q11a cs l paid b) (b := rndN d) (f := rndF cs d) (mem8 hs.2 (by simp)) hs4 rfl B i (by omega) (by have := Nat.mul_le_mul_right (rndN d) (show i <= 3 by omega); simp [q11a]; omega) (fun m e he hm _ => q11d hl d m e he hm)
    refine ⟨by omega, ?_⟩
    refine q006.weak (Weak.le 56 (t' := q0m0 (l ++ [⟨(q10m cs b 2).1, paid, paid, -1, []⟩])) rfl ?_ rfl) ?_
    ·rw [q0m0, q067]
     exact LeL.arr (LeL.append (.refl _) (LeL.cons (.refl _) (LeL.cons (.refl _) (LeL.cons (.refl _) (LeL.cons (.refl _) (LeL.cons (.nilArr 1) (.refl _)))))))
    refine q006.ref (q10p cs hc hl (q10m cs b 2).2 hs3 3 (by omega)) [1000000000] [] rfl Tryz.call37 (by simp) ?_ (by simp) ?_ (.inl rfl) ?_
    ·simp -implicitDefEqProofs only [sR', Nat.reduceEqDiff, ↓reduceIte]
    ·simp -implicitDefEqProofs only [aR', go_sem]
    simp -implicitDefEqProofs only [cR', go_sem]
    have hwq : IntKind.i64.wrap (1 + (q10m cs (q10m cs b 2).2 3).1) = (K : Int) := by rw [wrap64 (by omega) (by omega)]; exact hKi
    have hwd : IntKind.i64.wrap (((d + 1 : Nat) : Int) - 1) = (d : Int) := by rw [wrap64 (by omega) (by omega)]; omega
    have hL0 : q11e (rndF cs d) (q11a cs l paid b) 0 = ((l ++ [⟨(q10m cs b 2).1, paid, paid, -1, []⟩], (q10m cs (q10m cs b 2).2 3).2), []) := rfl
    have hLs : ∀ i, q11e (rndF cs d) (q11a cs l paid b) (i + 1) = q11j (rndF cs d) (q11e (rndF cs d) (q11a cs l paid b) i) := fun i => rfl
    have hl0 : (q11a cs l paid b).1.1.length = l.length + 1 := by simp [q11a]
    generalize hLL : q11e (rndF cs d) (q11a cs l paid b) = L at hL0 hLs hnode hloop
    refine SemC.loopR (σ := Nat) (fun i => St.ofD [(0, .own 1000000000), (1, .own 196), (2, .t (.i ((d + 1 : Nat) : Int))), (7, .t (.i l.length)), (10, .own 197), (11, .t (.i ((K : Int) - i)))] [(1000000000, .box [bytes cs, .i (L i).1.2.1, .i (L i).1.2.2]), (196, q0m0 (L i).1.1), (197, intsO (L i).2)] 1000000001) (fun i => i <= K) (fun i => 3 - i) 0 (Weak.ofD _ _ _ [some 1000000000, some 56, some 57] (by simp) (by simp) rfl ?_ ?_) (by omega) fun i hi R hn' hr he => ?_
    ·simp -implicitDefEqProofs only [wR', Nat.reduceBEq, Nat.reduceEqDiff, ↓reduceIte, hwq, Int.sub_zero, Int.natCast_zero, Int.cast_ofNat_Int, show l.length * 5 / 5 = l.length by omega]
    ·rw [hL0]; exact ⟨⟨_, rfl, .refl _⟩, rfl, ⟨_, rfl, .refl _⟩, rfl, ⟨_, rfl, .refl _⟩, rfl, trivial⟩
    obtain ⟨i1, i2, i3, i4, i5⟩ := hloop i hi
    rw [hl0] at i1 i3
    have hi3 := Nat.mul_le_mul_right (rndN d) (show i <= 3 by omega)
    have hml : (chunk q0lv (L i).1.1).length / 5 = (L i).1.1.length := q06a q0lw (by decide) _
    have hml5 : (chunk q0lv (L i).1.1).length = (L i).1.1.length * 5 := q06d q0lw _
    rcases Nat.lt_or_ge i K with h9 | h9
    ·simp -implicitDefEqProofs only [eR', go_sem, q0m0, intsO, hml, hml5, decide_eq_true (show 0 < (K : Int) - (i : Int) by omega), List.length_map]
     have hi4 := Nat.mul_le_mul_right (rndN d) (show i + 1 <= 3 by omega)
     rw [Nat.add_mul, Nat.one_mul] at hi4
     refine ⟨by omega, ?_⟩
     simp only [hwd]
     have hrec := q126 cs hc hl B hB0 d (L i).1.1 (L i).1.2 i4 ⟨by omega, i2⟩ (by omega)
     simp only [q0m0] at hrec
     refine q006.ref hrec [1000000000, 196] [] rfl Tryz.call105 (by simp) ?_ (by simp) ?_ (.inl rfl) ?_
     ·simp -implicitDefEqProofs only [sR', Nat.reduceEqDiff, ↓reduceIte]
     ·simp -implicitDefEqProofs only [aR', go_sem]
     simp -implicitDefEqProofs only [cR', go_sem]
     refine hn' _ (i + 1) (Weak.ofD _ _ _ [some 1000000000, some 74, some 69] (by simp) (by simp) rfl ?_ ?_) (by omega) (by omega)
     ·simp -implicitDefEqProofs only [wR', Nat.reduceBEq, Nat.reduceEqDiff, ↓reduceIte, show IntKind.i64.wrap ((K : Int) - (i : Int) - 1) = (K : Int) - ((i + 1 : Nat) : Int) by rw [wrap64 (by omega) (by omega)]; omega]
     ·rw [hLs]
      refine ⟨⟨_, rfl, .refl _⟩, rfl, ⟨_, rfl, .refl _⟩, rfl, ⟨_, rfl, ?_⟩, rfl, trivial⟩
      simp only [q11j, intsO, List.map_append, List.map_cons, List.map_nil, show (L i).1.1.length * 5 / 5 = (L i).1.1.length by omega]; exact .refl _
    ·simp -implicitDefEqProofs only [eR', go_sem, q0m0, intsO, hml, hml5, decide_eq_false (show ¬ 0 < (K : Int) - (i : Int) by omega), List.length_map]
     refine he _ _ ?_
     simp -implicitDefEqProofs only [eR', go_sem, q0m0, intsO, hml, hml5]
     obtain rfl : i = K := by omega
     obtain ⟨z, hz⟩ : ∃ z, (L i).1.1[l.length]? = some z := ⟨_, List.getElem?_eq_getElem (by omega)⟩
     refine ⟨by omega, by omega, by omega, ?_⟩
     rw [hF, hnode]
     refine ⟨rfl, .inl ?_⟩
     simp only [q11m, hz]
     rw [← q0yv (L i).1.1 l.length z _ hz]; rfl
   ·refine q006.ref (q10p cs hc hl b hs2 3 (by omega)) [1000000000] [] rfl Tryz.call37 (by simp) ?_ (by simp) ?_ (.inl rfl) ?_
    ·simp -implicitDefEqProofs only [sR', Nat.reduceEqDiff, ↓reduceIte]
    ·simp -implicitDefEqProofs only [aR', go_sem]
    simp -implicitDefEqProofs only [cR', go_sem]
    have hs3 := q10o (cs := cs) hl hs2 3
    generalize hz3 : q10m cs b 3 = z at hs3 ⊢
    obtain ⟨f, b3⟩ := z
    simp only [] at hs3 ⊢
    have hF := (show rndF cs (d + 1) (l, a) = q11b cs l (paid, b) by rw [rndF, if_pos (show 30 < l.length by omega), hz])
    refine ⟨fun h => ?_, fun h => ?_⟩
    ·refine q006.ref (q10p cs hc hl b3 hs3 6 (by omega)) [1000000000] [] rfl Tryz.call37 (by simp) ?_ (by simp) ?_ (.inl rfl) ?_
     ·simp -implicitDefEqProofs only [sR', Nat.reduceEqDiff, ↓reduceIte]
     ·simp -implicitDefEqProofs only [aR', go_sem]
     simp -implicitDefEqProofs only [cR', go_sem]
     have hE : q11b cs l (paid, b) = (l ++ [⟨2, paid, (q10m cs b3 6).1, IntKind.i64.wrap (f - 1), []⟩], (q10m cs b3 6).2) := by
      simp only [q11b, hz3]; exact if_pos h
     rw [hF, hE]
     exact ⟨by omega, rfl, .inr ⟨paid, _, _, rfl, rfl⟩⟩
    ·have hE : q11b cs l (paid, b) = (l ++ [⟨2, paid, paid, IntKind.i64.wrap (f - 1), []⟩], b3) := by
      simp only [q11b, hz3]; exact if_neg h
     rw [hF, hE]
     exact ⟨by omega, rfl, .inr ⟨paid, _, _, rfl, rfl⟩⟩
end

def q21y : CC :=
 (.seq (.reg [.o (.alloc 4 [.v (.slice none 0 0), .v (.slice none 0 0), .v (.slice none 0 0)]),.o (.alloc 5 [.v (.int .i64 0), .v (.slice none 0 0)])])
 ((.seq (.reg [mv 8 0,.o (.call (some 9) (cf 65) [(sl 8)]),.o (.alloc 6 [.v (.slice none 0 0), .v (.slice none 0 0), .v (.slice none 0 0)]),.o (.store 3 (sl 6) (sl 9))])
 ((.seq (.seq (.weak (.reg [ln 10 3 6,.o (.call (some 11) (cf 35) [(sl 10)]),.o (.un 12 .not (sl 11))]))
 ((.cond (sl 12) (.seq (.reg [ln 13 3 6,mv 14 1,.o (.build 15 [.v (.int .i64 0), .v (.slice none 0 0)] [(0, 1), (1, 1)] [(0, (sl 14))]),.o (.store 3 (sl 4) (sl 13)),.o (.store 2 (sl 5) (sl 15))])
 (.ret))
 .skip)))
 ((.seq (.reg [mv 16 0,ln 17 3 6,mv 18 1,.o (.call (some 19) (cf 36) [(sl 16), (sl 17), (sl 18)]),.o (.alloc 7 [.v (.int .i64 0), .v (.slice none 0 0)]),.o (.store 2 (sl 7) (sl 19))])
 ((.seq (.seq (.reg [mv 20 0,.o (.call (some 21) (cf 37) [(sl 20), (ci 20)])])
 ((.block 0 (.seq (.reg [.o (.bin 23 .eql (sl 21) (ci 0)),mv 22 23])
 ((.cond (sl 22) (.seq (.reg [fl 24 1 7,l1 25 24,.o (.lenS 26 (sl 25)),.o (.bin 27 .gtr (sl 26) (ci 0))])
 ((.cond (sl 27) (.weak (.draw [39] [(.r false [1000000000, 40, 39], fl 28 1 7),(.r false [1000000000, 40, 39], l1 29 28),(.r false [1000000000, 40, 39], .o (.idx 30 1 (sl 29) (ci 0))),(.r false [1000000000, 40, 39], l1 31 30),(.r false [1000000000, 40, 39], fl 32 1 7),(.r false [1000000000, 40, 39], l1 33 32),(.r false [1000000000, 40, 39], .o (.idx 34 1 (sl 33) (ci 0))),(.r false [1000000000, 40, 39], l1 35 34),(.r false [1000000000, 40, 39], .o (.idx 36 1 (sl 35) (ci 0))),(.r false [1000000000, 40, 39], l1 37 36),kr (mv 38 0),(kN, .o (.bslice 39 1 3 [(0, (ci (-1))), (1, (ci 1)), (2, (ci 60))])),(.h (some [1000000000, 39]) [], .o (.call (some 40) (cf 45) [(sl 38), (sl 39)])),kr (.o (.bin 41 .add (sl 37) (sl 40))),kr (.o (.idx 42 1 (sl 31) (ci 0))),(kH, .o (.store 1 (sl 42) (sl 41)))]))
 .skip)))
 (.seq (.reg [.o (.bin 44 .eql (sl 21) (ci 1)),mv 43 44])
 ((.cond (sl 43) (.reg [mv 45 0,mv 46 1,.o (.bin 47 .sub (ci 1) (sl 46)),.o (.bslice 48 1 3 [(0, (ci (-1))), (1, (sl 47)), (2, (ci 2))]),.o (.call (some 49) (cf 45) [(sl 45), (sl 48)]),fl 50 0 7,.o (.store 1 (sl 50) (sl 49))])
 (.seq (.reg [.o (.bin 52 .eql (sl 21) (ci 2)),mv 51 52])
 ((.cond (sl 51) (.reg [fl 53 1 7,l1 54 53,.o (.bslice 55 1 1 [(0, (ci 60))]),.o (.bslice 56 1 1 [(0, (sl 55))]),.o (.app 57 1 24 (sl 54) (sl 56)),fl 58 1 7,.o (.store 1 (sl 58) (sl 57))])
 .skip))))))))))))
 ((.seq (.weak (.draw [] [kr (ln 59 3 6),(.r false [4], ln 60 2 7),(.h (some [4]) [], .o (.store 3 (sl 4) (sl 59))),(kH, .o (.store 2 (sl 5) (sl 60)))]))
 (.ret))))))))))))
theorem q23c {rin args Q} (ha : args.length <= 61) (h : fW 61 q21y [.cell 4 29, .cell 5 31] rin args Q) : Fun Tryz.prog 34 rin args Q :=
 Fun.of (H := ⟨[(8, 0, .r false [1000000000, 40, 39]), (8, 1, .r false [1000000000, 40, 39]), (8, 2, .r false [1000000000, 40, 39]), (8, 3, .r false [1000000000, 40, 39]), (8, 4, .r false [1000000000, 40, 39]), (8, 5, .r false [1000000000, 40, 39]), (8, 6, .r false [1000000000, 40, 39]), (8, 7, .r false [1000000000, 40, 39]), (8, 8, .r false [1000000000, 40, 39]), (8, 9, .r false [1000000000, 40, 39]), (8, 12, .h (some [1000000000, 39]) []), (13, 1, .r false [4]), (13, 2, .h (some [4]) [])], [2, 8, 13]⟩) Tryz.func34 rfl rfl rfl (by kernel_rfl) ha (by decide) h

def q0yp : CC :=
 (.seq (.reg [.o (.alloc 2 [.v (.slice none 0 0), .v (.slice none 0 0), .v (.slice none 0 0)])])
 ((.seq (.reg [mv 5 0,.o (.call (some 6) (cf 82) [(sl 5)]),.o (.alloc 3 [.v (.slice none 0 0), .v (.slice none 0 0), .v (.slice none 0 0)]),.o (.store 3 (sl 3) (sl 6))])
 ((.seq (.reg [mv 7 0,fl 8 1 3,l1 9 8,.o (.lenS 10 (sl 9)),.o (.call (some 11) (cf 37) [(sl 7), (sl 10)]),mv 4 11])
 ((.seq (.seq (.reg [mv 12 0,.o (.call (some 13) (cf 37) [(sl 12), (ci 24)])])
 ((.block 0 (.seq (.reg [.o (.bin 15 .eql (sl 13) (ci 0)),mv 14 15])
 ((.cond (sl 14) (.weak (.draw [22] [(.r false [1000000000, 23, 22], fl 16 1 3),(.r false [1000000000, 23, 22], l1 17 16),(.r false [1000000000, 23, 22], mv 18 4),(.r false [1000000000, 23, 22], ix 19 17 18),(.r false [1000000000, 23, 22], l1 20 19),kr (mv 21 0),(kN, .o (.bslice 22 1 4 [(0, (ci (-1))), (1, (ci 0)), (2, (ci 9)), (3, (ci 10))])),(.h (some [1000000000, 22]) [], .o (.call (some 23) (cf 45) [(sl 21), (sl 22)])),kr (.o (.idx 24 1 (sl 20) (ci 0))),(kH, .o (.store 1 (sl 24) (sl 23)))]))
 (.seq (.reg [.o (.bin 26 .eql (sl 13) (ci 1)),mv 25 26])
 ((.cond (sl 25) (.weak (.draw [33] [(.r false [1000000000, 34, 33], fl 27 2 3),(.r false [1000000000, 34, 33], l1 28 27),(.r false [1000000000, 34, 33], mv 29 4),(.r false [1000000000, 34, 33], ix 30 28 29),(.r false [1000000000, 34, 33], l1 31 30),kr (mv 32 0),(kN, .o (.bslice 33 1 2 [(0, (ci (-2))), (1, (ci 2))])),(.h (some [1000000000, 33]) [], .o (.call (some 34) (cf 45) [(sl 32), (sl 33)])),kr (.o (.idx 35 1 (sl 31) (ci 0))),(kH, .o (.store 1 (sl 35) (sl 34)))]))
 (.seq (.reg [.o (.bin 37 .eql (sl 13) (ci 2)),mv 36 37])
 ((.cond (sl 36) (.seq (.weak (.draw [] [kr (fl 38 0 3),kr (ln 39 1 38),kr (fl 40 1 3),kr (l1 41 40),kr (fl 42 2 3),kr (l1 43 42),kr (.o (.slc 44 1 (sl 43) (some (ci 1)) none)),kr (.o (.build 45 [.v (.slice none 0 0), .v (.slice none 0 0), .v (.slice none 0 0)] [(0, 1), (1, 1), (2, 1)] [(0, (sl 39)), (1, (sl 41)), (2, (sl 44))])),(kH, .o (.store 3 (sl 2) (sl 45)))]))
 (.ret))
 (.seq (.reg [.o (.bin 47 .eql (sl 13) (ci 3)),mv 46 47])
 ((.cond (sl 46) (.seq (.weak (.draw [] [kr (mv 48 0),(.h (some [1000000000]) [], .o (.call (some 49) (cf 83) [(sl 48)])),(.r false [1000000000, 49], fl 50 1 3),(.r false [1000000000, 49], l1 51 50),(.r false [1000000000, 49], fl 52 2 3),(.r false [1000000000, 49], l1 53 52),kr (.o (.build 54 [.v (.slice none 0 0), .v (.slice none 0 0), .v (.slice none 0 0)] [(0, 1), (1, 1), (2, 1)] [(0, (sl 49)), (1, (sl 51)), (2, (sl 53))])),(kH, .o (.store 3 (sl 2) (sl 54)))]))
 (.ret))
 .skip)))))))))))))))
 ((.seq (.weak (.reg [ln 55 3 3,.o (.store 3 (sl 2) (sl 55))]))
 (.ret))))))))))
theorem q0zu {rin args Q} (ha : args.length <= 56) (h : fW 56 q0yp [.cell 2 29] rin args Q) : Fun Tryz.prog 65 rin args Q :=
 Fun.of (H := ⟨[(5, 0, .r false [1000000000, 23, 22]), (5, 1, .r false [1000000000, 23, 22]), (5, 2, .r false [1000000000, 23, 22]), (5, 3, .r false [1000000000, 23, 22]), (5, 4, .r false [1000000000, 23, 22]), (5, 7, .h (some [1000000000, 22]) []), (7, 0, .r false [1000000000, 34, 33]), (7, 1, .r false [1000000000, 34, 33]), (7, 2, .r false [1000000000, 34, 33]), (7, 3, .r false [1000000000, 34, 33]), (7, 4, .r false [1000000000, 34, 33]), (7, 7, .h (some [1000000000, 33]) []), (11, 2, .r false [1000000000, 49]), (11, 3, .r false [1000000000, 49]), (11, 4, .r false [1000000000, 49]), (11, 5, .r false [1000000000, 49]), (11, 1, .h (some [1000000000]) [])], [5, 7, 9, 11, 12]⟩) Tryz.func65 rfl rfl rfl (by kernel_rfl) ha (by decide) h

def q0ys : CC :=
 (.seq (.reg [.o (.alloc 2 [.v (.slice none 0 0), .v (.slice none 0 0), .v (.slice none 0 0)])])
 ((.seq (.seq (.reg [mv 7 0,.o (.call (some 8) (cf 37) [(sl 7), (ci 6)])])
 ((.block 0 (.seq (.reg [.o (.bin 10 .eql (sl 8) (ci 0)),mv 9 10])
 ((.cond (sl 9) (.seq (.reg [.o (.call (some 11) (cf 91) []),.o (.store 3 (sl 2) (sl 11))])
 (.ret))
 (.seq (.reg [.o (.bin 13 .eql (sl 8) (ci 1)),mv 12 13])
 ((.cond (sl 12) (.seq (.reg [mv 14 0,.o (.call (some 15) (cf 93) [(sl 14)]),mv 16 0,.o (.call (some 17) (cf 37) [(sl 16), (ci 2)]),.o (.bin 18 .add (ci 2) (sl 17)),.o (.call (some 19) (cf 92) [(sl 15), (sl 18), (cb true)]),.o (.store 3 (sl 2) (sl 19))])
 (.ret))
 .skip)))))))))
 ((.seq (.reg [mv 20 0,.o (.call (some 21) (cf 37) [(sl 20), (ci 3)]),.o (.bin 22 .add (ci 1) (sl 21)),mv 3 22])
 ((.seq (.reg [mv 23 0,.o (.call (some 24) (cf 93) [(sl 23)]),mv 25 3,.o (.call (some 26) (cf 92) [(sl 24), (sl 25), (cb true)]),.o (.alloc 4 [.v (.slice none 0 0), .v (.slice none 0 0), .v (.slice none 0 0)]),.o (.store 3 (sl 4) (sl 26))])
 ((.seq (.seq (.reg [.o (.move 5 (ci 0))])
 ((.block 1 (.loop (.seq (.seq (.reg [mv 27 5,mv 28 3,.o (.bin 29 .lss (sl 27) (sl 28))])
 ((.cond (sl 29) .skip
 (.exit 1))))
 ((.seq (.block 2 (.seq (.reg [.o (.move 6 (ci 0))])
 ((.block 3 (.loop (.seq (.seq (.reg [mv 32 6,mv 33 3,.o (.bin 34 .lss (sl 32) (sl 33))])
 ((.cond (sl 34) .skip
 (.exit 3))))
 ((.seq (.block 4 (.seq (.weak (.draw [] [(.r false [1000000000, 44], fl 37 1 4),(.r false [1000000000, 44], l1 38 37),(.r false [1000000000, 44], mv 39 5),(.r false [1000000000, 44], ix 40 38 39),(.r false [1000000000, 44], l1 41 40),(.r false [1000000000, 44], mv 42 6),kr (mv 43 0),(.h (some [1000000000]) [], .o (.call (some 44) (cf 37) [(sl 43), (ci 4)])),kr (ix 45 41 42),(kH, .o (.store 1 (sl 45) (sl 44)))]))
 ((.seq (.reg [mv 46 0,.o (.call (some 47) (cf 37) [(sl 46), (ci 4)]),.o (.bin 48 .eql (sl 47) (ci 0))])
 ((.cond (sl 48) (.weak (.draw [] [(.r false [1000000000, 56], fl 49 2 4),(.r false [1000000000, 56], l1 50 49),(.r false [1000000000, 56], mv 51 5),(.r false [1000000000, 56], ix 52 50 51),(.r false [1000000000, 56], l1 53 52),(.r false [1000000000, 56], mv 54 6),kr (mv 55 0),(.h (some [1000000000]) [], .o (.call (some 56) (cf 37) [(sl 55), (ci 3)])),kr (.o (.bin 57 .sub (sl 56) (ci 1))),kr (ix 58 53 54),(kH, .o (.store 1 (sl 58) (sl 57)))]))
 .skip))))))
 ((.reg [mv 35 6,.o (.bin 36 .add (sl 35) (ci 1)),mv 6 36]))))))))))
 ((.reg [mv 30 5,.o (.bin 31 .add (sl 30) (ci 1)),mv 5 31])))))))))
 ((.seq (.weak (.draw [] [kr (fl 59 1 4),kr (l1 60 59),kr (.o (.idx 61 1 (sl 60) (ci 0))),kr (l1 62 61),kr (fl 63 1 4),kr (l1 64 63),kr (.o (.idx 65 1 (sl 64) (ci 0))),kr (l1 66 65),kr (.o (.idx 67 1 (sl 66) (ci 0))),kr (l1 68 67),kr (.o (.mm 69 true (ci 1) (sl 68))),kr (.o (.idx 70 1 (sl 62) (ci 0))),(kH, .o (.store 1 (sl 70) (sl 69)))]))
 ((.seq (.weak (.reg [ln 71 3 4,.o (.store 3 (sl 2) (sl 71))]))
 (.ret))))))))))))))
theorem q0zx {rin args Q} (ha : args.length <= 72) (h : fW 72 q0ys [.cell 2 29] rin args Q) : Fun Tryz.prog 82 rin args Q :=
 Fun.of (H := ⟨[(14, 0, .r false [1000000000, 44]), (14, 1, .r false [1000000000, 44]), (14, 2, .r false [1000000000, 44]), (14, 3, .r false [1000000000, 44]), (14, 4, .r false [1000000000, 44]), (14, 5, .r false [1000000000, 44]), (14, 7, .h (some [1000000000]) []), (16, 0, .r false [1000000000, 56]), (16, 1, .r false [1000000000, 56]), (16, 2, .r false [1000000000, 56]), (16, 3, .r false [1000000000, 56]), (16, 4, .r false [1000000000, 56]), (16, 5, .r false [1000000000, 56]), (16, 7, .h (some [1000000000]) [])], [14, 16, 17, 18]⟩) Tryz.func82 rfl rfl rfl (by kernel_rfl) ha (by decide) h

def q0yl : CC :=
 (.seq (.reg [.o (.alloc 2 [.v (.slice none 0 0)])])
 ((.seq (.reg [mv 5 0,.o (.call (some 6) (cf 93) [(sl 5)]),.o (.alloc 3 [.v (.slice none 0 0)]),.o (.store 1 (sl 3) (sl 6))])
 ((.seq (.reg [mv 7 0,fl 8 0 3,l1 9 8,.o (.lenS 10 (sl 9)),.o (.call (some 11) (cf 37) [(sl 7), (sl 10)]),mv 4 11])
 ((.seq (.seq (.reg [mv 12 0,.o (.call (some 13) (cf 37) [(sl 12), (ci 30)])])
 ((.block 0 (.seq (.reg [.o (.bin 15 .eql (sl 13) (ci 0)),mv 14 15])
 ((.cond (sl 14) (.draw [20] [(.r false [1000000000, 21, 20], fl 16 0 3),(.r false [1000000000, 21, 20], l1 17 16),(.r false [1000000000, 21, 20], mv 18 4),kr (mv 19 0),(kN, .o (.bslice 20 1 5 [(0, (ci (-1))), (1, (ci 0)), (2, (ci 1)), (3, (ci 2)), (4, (ci 3))])),(.h (some [1000000000, 20]) [], .o (.call (some 21) (cf 45) [(sl 19), (sl 20)])),kr (.o (.idx 22 5 (sl 17) (sl 18))),kr (fl 23 0 22),(kH, .o (.store 1 (sl 23) (sl 21)))])
 (.seq (.reg [.o (.bin 25 .eql (sl 13) (ci 1)),mv 24 25])
 ((.cond (sl 24) (.draw [30] [(.r false [1000000000, 31, 30], fl 26 0 3),(.r false [1000000000, 31, 30], l1 27 26),(.r false [1000000000, 31, 30], mv 28 4),kr (mv 29 0),(kN, .o (.bslice 30 1 4 [(0, (ci (-1))), (1, (ci 0)), (2, (ci 100)), (3, (ci 101))])),(.h (some [1000000000, 30]) [], .o (.call (some 31) (cf 45) [(sl 29), (sl 30)])),kr (.o (.idx 32 5 (sl 27) (sl 28))),kr (fl 33 1 32),(kH, .o (.store 1 (sl 33) (sl 31)))])
 (.seq (.reg [.o (.bin 35 .eql (sl 13) (ci 2)),mv 34 35])
 ((.cond (sl 34) (.draw [40] [(.r false [1000000000, 41, 40], fl 36 0 3),(.r false [1000000000, 41, 40], l1 37 36),(.r false [1000000000, 41, 40], mv 38 4),kr (mv 39 0),(kN, .o (.bslice 40 1 4 [(0, (ci (-2))), (1, (ci (-1))), (2, (ci 0)), (3, (ci 2))])),(.h (some [1000000000, 40]) [], .o (.call (some 41) (cf 45) [(sl 39), (sl 40)])),kr (.o (.idx 42 5 (sl 37) (sl 38))),kr (fl 43 3 42),(kH, .o (.store 1 (sl 43) (sl 41)))])
 (.seq (.reg [.o (.bin 45 .eql (sl 13) (ci 3)),mv 44 45])
 ((.cond (sl 44) (.reg [fl 46 0 3,l1 47 46,.o (.bslice 48 1 2 [(0, (ci 1)), (1, (ci 1))]),.o (.idx 49 5 (sl 47) (ci 0)),fl 50 4 49,.o (.store 1 (sl 50) (sl 48))])
 (.seq (.reg [.o (.bin 52 .eql (sl 13) (ci 4)),mv 51 52])
 ((.cond (sl 51) (.seq (.weak (.reg [fl 53 0 3,l1 54 53,mv 55 4,.o (.slc 56 5 (sl 54) none (some (sl 55))),.o (.build 57 [.v (.slice none 0 0)] [(0, 1)] [(0, (sl 56))]),.o (.store 1 (sl 2) (sl 57))]))
 (.ret))
 (.seq (.reg [.o (.bin 59 .eql (sl 13) (ci 5)),mv 58 59])
 ((.cond (sl 58) (.seq (.weak (.draw [] [(.h (some []) [72], .o (.bslice 60 5 0 [])),(.r false [60, 63, 72], fl 61 0 3),(.r false [60, 63, 72], l1 62 61),(.h (some [60]) [72], .o (.app 63 5 56 (sl 60) (sl 62))),(.r false [60, 63, 72], fl 64 0 3),(.r false [60, 63, 72], l1 65 64),(.r false [60, 63, 72], fl 66 0 3),(.r false [60, 63, 72], l1 67 66),(.r false [60, 63, 72], .o (.lenS 68 (sl 67))),(.r false [60, 63, 72], .o (.bin 69 .sub (sl 68) (ci 1))),(.r false [60, 63, 72], .o (.idx 70 5 (sl 65) (sl 69))),(.r false [60, 63, 72], ln 71 5 70),(.h (some []) [60, 63], .o (.bslice 72 5 1 [(0, (sl 71))])),(kH, .o (.app 73 5 56 (sl 63) (sl 72))),kr (.o (.build 74 [.v (.slice none 0 0)] [(0, 1)] [(0, (sl 73))])),(kH, .o (.store 1 (sl 2) (sl 74)))]))
 (.ret))
 .skip)))))))))))))))))))))
 ((.seq (.weak (.reg [ln 75 1 3,.o (.store 1 (sl 2) (sl 75))]))
 (.ret))))))))))
theorem q0zq {rin args Q} (ha : args.length <= 76) (h : fW 76 q0yl [.cell 2 26] rin args Q) : Fun Tryz.prog 83 rin args Q :=
 Fun.of (H := ⟨[(5, 0, .r false [1000000000, 21, 20]), (5, 1, .r false [1000000000, 21, 20]), (5, 2, .r false [1000000000, 21, 20]), (5, 5, .h (some [1000000000, 20]) []), (7, 0, .r false [1000000000, 31, 30]), (7, 1, .r false [1000000000, 31, 30]), (7, 2, .r false [1000000000, 31, 30]), (7, 5, .h (some [1000000000, 30]) []), (9, 0, .r false [1000000000, 41, 40]), (9, 1, .r false [1000000000, 41, 40]), (9, 2, .r false [1000000000, 41, 40]), (9, 5, .h (some [1000000000, 40]) []), (15, 0, .h (some []) [72]), (15, 3, .h (some [60]) [72]), (15, 12, .h (some []) [60, 63]), (15, 1, .r false [60, 63, 72]), (15, 2, .r false [60, 63, 72]), (15, 4, .r false [60, 63, 72]), (15, 5, .r false [60, 63, 72]), (15, 6, .r false [60, 63, 72]), (15, 7, .r false [60, 63, 72]), (15, 8, .r false [60, 63, 72]), (15, 9, .r false [60, 63, 72]), (15, 10, .r false [60, 63, 72]), (15, 11, .r false [60, 63, 72])], [13, 15, 16]⟩) Tryz.func83 rfl rfl rfl (by kernel_rfl) ha (by decide) h

section
attribute [-go_sem] q0i5 q0id fldC lenC idxC q0ip q0lp
theorem q127 (cs : List Int) (hc : q161 cs) (hl : cs.length <= 100000000000) (a : Nat × Int) (ha : q0qx a) : ∃ x : List Nd × (Nat × Int), (q0rx 100 x.1 /\ 0 < x.1.length /\ q0qx x.2) /\ Fun Tryz.prog 93 [.box [bytes cs, .i a.1, .i a.2]] [.own 1000000000] fun o r => o = [.box [bytes cs, .i x.2.1, .i x.2.2]] /\ r = .agg [q0m0 x.1] := by
 have hs1 := q10o (cs := cs) hl ha 5
 by_cases q0 : (q10m cs a 5).1 = 0
 ·obtain ⟨g1, g2, g3⟩ := q11d (cs := cs) hl 3 [] (q10m cs a 5).2 hs1 (by simp)
  refine ⟨rndF cs 3 ([], (q10m cs a 5).2), ⟨⟨Nat.le_trans g1.1 (by decide), g1.2⟩, by simpa using g2, g3⟩, ?_⟩
  refine q0zt (by simp) ?_
  simp -implicitDefEqProofs only [eR', go_sem, q0yo]
  refine q006.ref (q10p cs hc hl a ha 5 (by omega)) [1000000000] [] rfl Tryz.call37 (by simp) ?_ (by simp) ?_ (.inl rfl) ?_
  ·simp -implicitDefEqProofs only [sR', Nat.reduceEqDiff, ↓reduceIte]
  ·simp -implicitDefEqProofs only [aR', go_sem]
  simp -implicitDefEqProofs only [cR', go_sem]
  generalize q10m cs a 5 = z at q0 hs1 ⊢
  obtain ⟨k, b⟩ := z
  simp only [] at q0 hs1 ⊢
  refine ⟨fun h0 => ?_, fun h0 => absurd h0 (by simp [q0])⟩
  have hp := q126 cs hc hl 1000 (by omega) 3 [] b hs1 ⟨by simp, by simp⟩ (by decide)
  simp only [q0m0, q06e, show ((3 : Nat) : Int) = 3 from rfl] at hp
  refine q006.ref hp [1000000000, 12] [] rfl Tryz.call105 (by simp) ?_ (by simp) ?_ (.inl rfl) ?_
  ·simp -implicitDefEqProofs only [sR', Nat.reduceEqDiff, ↓reduceIte]
  ·simp -implicitDefEqProofs only [aR', go_sem]
  simp -implicitDefEqProofs only [cR', go_sem]
  rfl
 ·by_cases q1 : (q10m cs a 5).1 = 1
  ·have hs2 := q10o (cs := cs) hl hs1 4
   have hb2 := q10n (cs := cs) (a := (q10m cs a 5).2) (n := 4) (by omega)
   have hs3 := q10o (cs := cs) hl hs2 5
   have hb3 := q10n (cs := cs) (a := (q10m cs (q10m cs a 5).2 4).2) (n := 5) (by omega)
   obtain ⟨l', h1', h2', hp⟩ := q11u (q10m cs (q10m cs a 5).2 4).1 (1 + (q10m cs (q10m cs (q10m cs a 5).2 4).2 5).1) 1 (by omega) (by omega) (by omega) (by omega) (by omega)
   refine ⟨(l', (q10m cs (q10m cs (q10m cs a 5).2 4).2 5).2), ⟨h1', h2', hs3⟩, ?_⟩
   refine q0zt (by simp) ?_
   simp -implicitDefEqProofs only [eR', go_sem, q0yo]
   refine q006.ref (q10p cs hc hl a ha 5 (by omega)) [1000000000] [] rfl Tryz.call37 (by simp) ?_ (by simp) ?_ (.inl rfl) ?_
   ·simp -implicitDefEqProofs only [sR', Nat.reduceEqDiff, ↓reduceIte]
   ·simp -implicitDefEqProofs only [aR', go_sem]
   simp -implicitDefEqProofs only [cR', go_sem]
   generalize q10m cs a 5 = z at *
   obtain ⟨k, b⟩ := z
   simp only [] at q0 q1 hs1 hs2 hb2 hs3 hb3 hp ⊢
   refine ⟨fun h0 => absurd h0 (by simp [q0]), fun h0 => ⟨fun h1 => ?_, fun h1 => absurd h1 (by simp [q1])⟩⟩
   refine q006.ref (q10p cs hc hl b hs1 4 (by omega)) [1000000000] [] rfl Tryz.call37 (by simp) ?_ (by simp) ?_ (.inl rfl) ?_
   ·simp -implicitDefEqProofs only [sR', Nat.reduceEqDiff, ↓reduceIte]
   ·simp -implicitDefEqProofs only [aR', go_sem]
   simp -implicitDefEqProofs only [cR', go_sem]
   generalize q10m cs b 4 = z at *
   obtain ⟨p, b2⟩ := z
   simp only [] at hs2 hb2 hs3 hb3 hp ⊢
   refine q006.ref (q10p cs hc hl b2 hs2 5 (by omega)) [1000000000] [] rfl Tryz.call37 (by simp) ?_ (by simp) ?_ (.inl rfl) ?_
   ·simp -implicitDefEqProofs only [sR', Nat.reduceEqDiff, ↓reduceIte]
   ·simp -implicitDefEqProofs only [aR', go_sem]
   simp -implicitDefEqProofs only [cR', go_sem]
   generalize q10m cs b2 5 = z at *
   obtain ⟨q, b3⟩ := z
   simp only [] at hs3 hb3 hp ⊢
   rw [wrap64 (n := 1 + q) (by omega) (by omega)]
   simp only [show ((1 : Nat) : Int) = 1 from rfl, q0m0] at hp
   refine q006.res hp [] rfl Tryz.call102 ?_ (.inl rfl) ?_
   ·simp -implicitDefEqProofs only [aR', go_sem]
   simp -implicitDefEqProofs only [cR', go_sem, opR, Nat.reduceBEq]
   rfl
  ·have hs2 := q10o (cs := cs) hl hs1 3
   have hb2 := q10n (cs := cs) (a := (q10m cs a 5).2) (n := 3) (by omega)
   have hs3 := q10o (cs := cs) hl hs2 4
   have hb3 := q10n (cs := cs) (a := (q10m cs (q10m cs a 5).2 3).2) (n := 4) (by omega)
   obtain ⟨l', h1', h2', hp⟩ := q11u (1 + (q10m cs (q10m cs a 5).2 3).1) (1 + (q10m cs (q10m cs (q10m cs a 5).2 3).2 4).1) 0 (by omega) (by omega) (by omega) (by omega) (by omega)
   refine ⟨(l', (q10m cs (q10m cs (q10m cs a 5).2 3).2 4).2), ⟨h1', h2', hs3⟩, ?_⟩
   refine q0zt (by simp) ?_
   simp -implicitDefEqProofs only [eR', go_sem, q0yo]
   refine q006.ref (q10p cs hc hl a ha 5 (by omega)) [1000000000] [] rfl Tryz.call37 (by simp) ?_ (by simp) ?_ (.inl rfl) ?_
   ·simp -implicitDefEqProofs only [sR', Nat.reduceEqDiff, ↓reduceIte]
   ·simp -implicitDefEqProofs only [aR', go_sem]
   simp -implicitDefEqProofs only [cR', go_sem]
   generalize q10m cs a 5 = z at *
   obtain ⟨k, b⟩ := z
   simp only [] at q0 q1 hs1 hs2 hb2 hs3 hb3 hp ⊢
   refine ⟨fun h0 => absurd h0 (by simp [q0]), fun h0 => ⟨fun h1 => absurd h1 (by simp [q1]), fun h1 => ?_⟩⟩
   refine q006.ref (q10p cs hc hl b hs1 3 (by omega)) [1000000000] [] rfl Tryz.call37 (by simp) ?_ (by simp) ?_ (.inl rfl) ?_
   ·simp -implicitDefEqProofs only [sR', Nat.reduceEqDiff, ↓reduceIte]
   ·simp -implicitDefEqProofs only [aR', go_sem]
   simp -implicitDefEqProofs only [cR', go_sem]
   generalize q10m cs b 3 = z at *
   obtain ⟨p, b2⟩ := z
   simp only [] at hs2 hb2 hs3 hb3 hp ⊢
   refine q006.ref (q10p cs hc hl b2 hs2 4 (by omega)) [1000000000] [] rfl Tryz.call37 (by simp) ?_ (by simp) ?_ (.inl rfl) ?_
   ·simp -implicitDefEqProofs only [sR', Nat.reduceEqDiff, ↓reduceIte]
   ·simp -implicitDefEqProofs only [aR', go_sem]
   simp -implicitDefEqProofs only [cR', go_sem]
   generalize q10m cs b2 4 = z at *
   obtain ⟨q, b3⟩ := z
   simp only [] at hs3 hb3 hp ⊢
   rw [wrap64 (n := 1 + p) (by omega) (by omega), wrap64 (n := 1 + q) (by omega) (by omega)]
   simp only [show ((0 : Nat) : Int) = 0 from rfl, q0m0] at hp
   refine q006.res hp [] rfl Tryz.call102 ?_ (.inl rfl) ?_
   ·simp -implicitDefEqProofs only [aR', go_sem]
   simp -implicitDefEqProofs only [cR', go_sem, opR, Nat.reduceBEq]
   rfl
theorem q10r (l : List Nd) : (T.arr 5 (chunk q0lu l)).toSh = nodes l := by
 simp only [nodes, T.toSh, T.toShL_eq_map, chunk, List.map_flatMap]
 rfl
theorem q12g (l : List Nd) : T.toShL (chunk q0lv l) = chunk q0lu l := by
 have h := q0m1 l
 rw [q0m0, nodes, T.toSh] at h
 injection h
theorem q12h (l : List Nd) : T.toShL (chunk q0lu l) = chunk q0lu l := by
 have h := q10r l
 rw [nodes, T.toSh] at h
 injection h
theorem q0y2 (l : List Nd) : (chunk q0lu l).all T.cell = true := by
 rw [List.all_eq_true]
 intro t ht
 simp only [chunk, List.mem_flatMap] at ht
 obtain ⟨x, _, hx⟩ := ht
 simp only [q0lu, List.mem_cons, List.not_mem_nil, or_false] at hx
 rcases hx with rfl | rfl | rfl | rfl | rfl <;> rfl
theorem q0yx : ∀ (l : List Nd) (i : Nat) (x : Nd) (v : Int), l[i]? = some x -> (chunk q0lv l).set (i * 5) (.i v) = chunk q0lv (l.set i ⟨v, x.a, x.b, x.f, x.ch⟩)
 | [], i, x, v, h => by simp at h
 | a :: l, 0, x, v, h => by
   simp at h; subst h
   rw [q069, List.set_cons_zero, q069]; rfl
 | a :: l, i + 1, x, v, h => by
   rw [q069, List.set_append_right _ _ (by rw [q0lw]; omega), q0lw, show (i + 1) * 5 - 5 = i * 5 by omega, q0yx l i x v (by simpa using h), List.set_cons_succ, q069]
theorem q0yu : ∀ (l : List Nd) (i : Nat) (x : Nd) (v : Int), l[i]? = some x -> (chunk q0lv l).set (i * 5 + 1) (.i v) = chunk q0lv (l.set i ⟨x.p, v, x.b, x.f, x.ch⟩)
 | [], i, x, v, h => by simp at h
 | a :: l, 0, x, v, h => by
   simp at h; subst h
   rw [q069, List.set_cons_zero, q069]; rfl
 | a :: l, i + 1, x, v, h => by
   rw [q069, List.set_append_right _ _ (by rw [q0lw]; omega), q0lw, show (i + 1) * 5 + 1 - 5 = i * 5 + 1 by omega, q0yu l i x v (by simpa using h), List.set_cons_succ, q069]
theorem q0yw : ∀ (l : List Nd) (i : Nat) (x : Nd) (v : Int), l[i]? = some x -> (chunk q0lv l).set (i * 5 + 3) (.i v) = chunk q0lv (l.set i ⟨x.p, x.a, x.b, v, x.ch⟩)
 | [], i, x, v, h => by simp at h
 | a :: l, 0, x, v, h => by
   simp at h; subst h
   rw [q069, List.set_cons_zero, q069]; rfl
 | a :: l, i + 1, x, v, h => by
   rw [q069, List.set_append_right _ _ (by rw [q0lw]; omega), q0lw, show (i + 1) * 5 + 3 - 5 = i * 5 + 3 by omega, q0yw l i x v (by simpa using h), List.set_cons_succ, q069]
theorem q11t {b : Nat} {l : List Nd} (h : q0rx b l) {i : Nat} {x : Nd} (hx : l[i]? = some x) (p a c f : Int) : q0rx b (l.set i ⟨p, a, c, f, x.ch⟩) := q11s h i _ (h.2 x (List.mem_of_getElem? hx))
def q0z4 (b : Bool) (l : List Nd) : T := .agg [if b then nodes l else .arr 5 (chunk q0lu l)]
def tdF (cs : List Int) (l : List Nd) (k : Nat) (q : Int) (c : Nat × Int) : (List Nd × Bool) × (Nat × Int) :=
 match l[k]? with
 | none => ((l, true), c)
 | some z =>
   if q = 0 then ((l.set k ⟨(q115 cs c [-1, 0, 1, 2, 3]).1, z.a, z.b, z.f, z.ch⟩, true), (q115 cs c [-1, 0, 1, 2, 3]).2)
   else if q = 1 then ((l.set k ⟨z.p, (q115 cs c [-1, 0, 100, 101]).1, z.b, z.f, z.ch⟩, true), (q115 cs c [-1, 0, 100, 101]).2)
   else if q = 2 then ((l.set k ⟨z.p, z.a, z.b, (q115 cs c [-2, -1, 0, 2]).1, z.ch⟩, true), (q115 cs c [-2, -1, 0, 2]).2)
   else if q = 3 then ((q11m l 0 [1, 1], true), c)
   else if q = 4 then ((l.take k, true), c)
   else if q = 5 then ((l ++ l[l.length - 1]?.toList, false), c)
   else ((l, true), c)
theorem q12f {cs : List Int} (hl : cs.length <= 100000000000) {l : List Nd} (h : q0rx 100 l) (k : Nat) (q : Int) {c : Nat × Int} (hc : q0qx c) : q0rx 101 (tdF cs l k q c).1.1 /\ q0qx (tdF cs l k q c).2 := by
 have hs : q0rx 101 l := ⟨by have := h.1; omega, h.2⟩
 unfold tdF
 cases hz : l[k]? with
 | none => exact ⟨hs, hc⟩
 | some z =>
   (try simp only [])
   split
   ·exact ⟨q11t hs hz _ _ _ _, q116 hl hc _⟩
   split
   ·exact ⟨q11t hs hz _ _ _ _, q116 hl hc _⟩
   split
   ·exact ⟨q11t hs hz _ _ _ _, q116 hl hc _⟩
   split
   ·exact ⟨(q11n hs 0 (by simp)).1, hc⟩
   split
   ·exact ⟨⟨by show (l.take k).length <= 101; rw [List.length_take]; have := hs.1; omega, fun x hx => hs.2 x (List.mem_of_mem_take hx)⟩, hc⟩
   split
   ·refine ⟨⟨?_, fun x hx => ?_⟩, hc⟩
    ·have := h.1
     show (l ++ l[l.length - 1]?.toList).length <= 101
     rw [List.length_append]
     have : l[l.length - 1]?.toList.length <= 1 := by cases l[l.length - 1]? <;> simp
     omega
    ·rcases List.mem_append.1 hx with hx | hx
     ·exact hs.2 x hx
     ·cases hg : l[l.length - 1]? with
      | none => rw [hg] at hx; simp at hx
      | some y => rw [hg] at hx; simp at hx; rw [hx]; exact hs.2 _ (List.mem_of_getElem? hg)
   ·exact ⟨hs, hc⟩
theorem q122 (cs : List Int) (hc : q161 cs) (hl : cs.length <= 100000000000) (a : Nat × Int) (ha : q0qx a) : ∃ x : (List Nd × Bool) × (Nat × Int), (q0rx 101 x.1.1 /\ q0qx x.2) /\ Fun Tryz.prog 83 [.box [bytes cs, .i a.1, .i a.2]] [.own 1000000000] fun o r => o = [.box [bytes cs, .i x.2.1, .i x.2.2]] /\ r = q0z4 x.1.2 x.1.1 := by
 obtain ⟨⟨l, e⟩, ⟨hx1, hx2, hx3⟩, hV⟩ := q127 cs hc hl a ha
 (try simp only [] at hx1 hx2 hx3 hV)
 refine ⟨tdF cs l (q10m cs e l.length).1.toNat (q10m cs (q10m cs e l.length).2 30).1 (q10m cs (q10m cs e l.length).2 30).2, q12f hl hx1 _ _ (q10o hl (q10o hl hx3 _) _), ?_⟩
 refine q0zq (by simp) ?_
 simp -implicitDefEqProofs only [eR', go_sem, q0yl]
 simp only [q0m0] at hV
 refine q006.ref hV [1000000000] [] rfl Tryz.call93 (by simp) ?_ (by simp) ?_ (.inl rfl) ?_
 ·simp -implicitDefEqProofs only [sR', Nat.reduceEqDiff, ↓reduceIte]
 ·simp -implicitDefEqProofs only [aR', go_sem]
 simp -implicitDefEqProofs only [cR', go_sem]
 have hl1 := hx1.1
 have hnl : (chunk q0lv l).length / 5 = l.length := q06a q0lw (by decide) l
 have hnl5 : (chunk q0lv l).length = l.length * 5 := q06d q0lw l
 rw [hnl]
 refine q006.ref (q10p cs hc hl e hx3 l.length (by omega)) [1000000000] [] rfl Tryz.call37 (by simp) ?_ (by simp) ?_ (.inl rfl) ?_
 ·simp -implicitDefEqProofs only [sR', Nat.reduceEqDiff, ↓reduceIte]
 ·simp -implicitDefEqProofs only [aR', go_sem]
 simp -implicitDefEqProofs only [cR', go_sem]
 have hs1 := q10o (cs := cs) hl hx3 l.length
 have hb1 := q10n (cs := cs) (a := e) (n := l.length) (by omega)
 generalize q10m cs e l.length = z at hs1 hb1 ⊢
 obtain ⟨k, b⟩ := z
 simp only [] at hs1 hb1 ⊢
 obtain ⟨k, rfl⟩ : ∃ n : Nat, k = n := ⟨k.toNat, by omega⟩
 rw [Int.toNat_natCast]
 refine q006.ref (q10p cs hc hl b hs1 30 (by omega)) [1000000000] [] rfl Tryz.call37 (by simp) ?_ (by simp) ?_ (.inl rfl) ?_
 ·simp -implicitDefEqProofs only [sR', Nat.reduceEqDiff, ↓reduceIte]
 ·simp -implicitDefEqProofs only [aR', go_sem]
 simp -implicitDefEqProofs only [cR', go_sem, List.lookup_cons, beq_self_eq_true]
 have hs2 := q10o (cs := cs) hl hs1 30
 generalize q10m cs b 30 = z at hs2 ⊢
 obtain ⟨q, c⟩ := z
 simp only [] at hs2 ⊢
 obtain ⟨z0, hz0⟩ : ∃ z, l[k]? = some z := ⟨_, List.getElem?_eq_getElem (by omega)⟩
 have hsm : q0rx 101 l := ⟨by omega, hx1.2⟩
 refine ⟨fun q0 => ?_, fun q0 => ⟨fun q1 => ?_, fun q1 => ⟨fun q2 => ?_, fun q2 => ⟨fun q3 => ?_, fun q3 => ⟨fun q4 => ?_, fun q4 => ⟨fun q5 => ?_, fun q5 => ?_⟩⟩⟩⟩⟩⟩
 ·have hp := q117 cs hc hl c hs2 [-1, 0, 1, 2, 3] (by simp) (by simp)
  simp only [intsO, List.map_cons, List.map_nil] at hp
  refine q002.ref hp [1000000000, 20] [] rfl Tryz.call45 (by simp) ?_ (by simp) (fun e R' hR => ?_) (.inl rfl) ?_
  ·simp -implicitDefEqProofs only [sR', Nat.reduceEqDiff, ↓reduceIte]
  ·simp -implicitDefEqProofs only [aR', go_sem]
  simp -implicitDefEqProofs only [cR', go_sem]
  have hs3 := q116 (cs := cs) hl hs2 [-1, 0, 1, 2, 3]
  generalize hpk : q115 cs c [-1, 0, 1, 2, 3] = z at hs3 ⊢
  obtain ⟨v, d⟩ := z
  simp only [] at hs3 ⊢
  refine ⟨?_, ((q09v.refl _ _ _).upd _ (.inl (by simp))).upd _ (.inl (by simp))⟩
  simp -implicitDefEqProofs only [eR', go_sem, hnl5]
  refine ⟨by omega, by omega, by omega, ?_⟩
  rw [q0yx l k z0 v hz0]
  refine ⟨_, Weak.trans (Weak.close1 3 0 9 rfl rfl (by decide) rfl) (Weak.trans (Weak.share 3 rfl) (Weak.o [(0, .own 1000000000), (2, .own 2), (3, .t (.pin [nodes (l.set k ⟨v, z0.a, z0.b, z0.f, z0.ch⟩)] 0)), (4, .t (.i k))] [(1000000000, .box [bytes cs, .i d.1, .i d.2]), (2, .box [.v (.slice none 0 0)])] [some 1000000000, some 2] ?_ ?_)), ?_⟩
  ·simp -implicitDefEqProofs only [wR', Nat.reduceBEq, Nat.reduceEqDiff, ↓reduceIte, q0rg, T.toSh, T.toShL, q12g, nodes, List.set_cons_zero]
  ·exact ⟨⟨_, rfl, .refl _⟩, rfl, ⟨_, rfl, .refl _⟩, rfl, trivial⟩
  simp -implicitDefEqProofs only [eR', go_sem, nodes]
  have hT : tdF cs l k q c = (((l.set k ⟨v, z0.a, z0.b, z0.f, z0.ch⟩), true), d) := by simp only [tdF, hz0, hpk]; exact if_pos (by simpa using q0)
  rw [hT]; exact ⟨rfl, rfl⟩
 ·have hp := q117 cs hc hl c hs2 [-1, 0, 100, 101] (by simp) (by simp)
  simp only [intsO, List.map_cons, List.map_nil] at hp
  refine q002.ref hp [1000000000, 30] [] rfl Tryz.call45 (by simp) ?_ (by simp) (fun e R' hR => ?_) (.inl rfl) ?_
  ·simp -implicitDefEqProofs only [sR', Nat.reduceEqDiff, ↓reduceIte]
  ·simp -implicitDefEqProofs only [aR', go_sem]
  simp -implicitDefEqProofs only [cR', go_sem]
  have hs3 := q116 (cs := cs) hl hs2 [-1, 0, 100, 101]
  generalize hpk : q115 cs c [-1, 0, 100, 101] = z at hs3 ⊢
  obtain ⟨v, d⟩ := z
  simp only [] at hs3 ⊢
  refine ⟨?_, ((q09v.refl _ _ _).upd _ (.inl (by simp))).upd _ (.inl (by simp))⟩
  simp -implicitDefEqProofs only [eR', go_sem, hnl5]
  refine ⟨by omega, by omega, by omega, ?_⟩
  rw [q0yu l k z0 v hz0]
  refine ⟨_, Weak.trans (Weak.close1 3 0 9 rfl rfl (by decide) rfl) (Weak.trans (Weak.share 3 rfl) (Weak.o [(0, .own 1000000000), (2, .own 2), (3, .t (.pin [nodes (l.set k ⟨z0.p, v, z0.b, z0.f, z0.ch⟩)] 0)), (4, .t (.i k))] [(1000000000, .box [bytes cs, .i d.1, .i d.2]), (2, .box [.v (.slice none 0 0)])] [some 1000000000, some 2] ?_ ?_)), ?_⟩
  ·simp -implicitDefEqProofs only [wR', Nat.reduceBEq, Nat.reduceEqDiff, ↓reduceIte, q0rg, T.toSh, T.toShL, q12g, nodes, List.set_cons_zero]
  ·exact ⟨⟨_, rfl, .refl _⟩, rfl, ⟨_, rfl, .refl _⟩, rfl, trivial⟩
  simp -implicitDefEqProofs only [eR', go_sem, nodes]
  have hT : tdF cs l k q c = (((l.set k ⟨z0.p, v, z0.b, z0.f, z0.ch⟩), true), d) := by simp only [tdF, hz0, hpk]; rw [if_neg (by simpa using q0)]; exact if_pos (by simpa using q1)
  rw [hT]; exact ⟨rfl, rfl⟩
 ·have hp := q117 cs hc hl c hs2 [-2, -1, 0, 2] (by simp) (by simp)
  simp only [intsO, List.map_cons, List.map_nil] at hp
  refine q002.ref hp [1000000000, 40] [] rfl Tryz.call45 (by simp) ?_ (by simp) (fun e R' hR => ?_) (.inl rfl) ?_
  ·simp -implicitDefEqProofs only [sR', Nat.reduceEqDiff, ↓reduceIte]
  ·simp -implicitDefEqProofs only [aR', go_sem]
  simp -implicitDefEqProofs only [cR', go_sem]
  have hs3 := q116 (cs := cs) hl hs2 [-2, -1, 0, 2]
  generalize hpk : q115 cs c [-2, -1, 0, 2] = z at hs3 ⊢
  obtain ⟨v, d⟩ := z
  simp only [] at hs3 ⊢
  refine ⟨?_, ((q09v.refl _ _ _).upd _ (.inl (by simp))).upd _ (.inl (by simp))⟩
  simp -implicitDefEqProofs only [eR', go_sem, hnl5]
  refine ⟨by omega, by omega, by omega, ?_⟩
  rw [q0yw l k z0 v hz0]
  refine ⟨_, Weak.trans (Weak.close1 3 0 9 rfl rfl (by decide) rfl) (Weak.trans (Weak.share 3 rfl) (Weak.o [(0, .own 1000000000), (2, .own 2), (3, .t (.pin [nodes (l.set k ⟨z0.p, z0.a, z0.b, v, z0.ch⟩)] 0)), (4, .t (.i k))] [(1000000000, .box [bytes cs, .i d.1, .i d.2]), (2, .box [.v (.slice none 0 0)])] [some 1000000000, some 2] ?_ ?_)), ?_⟩
  ·simp -implicitDefEqProofs only [wR', Nat.reduceBEq, Nat.reduceEqDiff, ↓reduceIte, q0rg, T.toSh, T.toShL, q12g, nodes, List.set_cons_zero]
  ·exact ⟨⟨_, rfl, .refl _⟩, rfl, ⟨_, rfl, .refl _⟩, rfl, trivial⟩
  simp -implicitDefEqProofs only [eR', go_sem, nodes]
  have hT : tdF cs l k q c = (((l.set k ⟨z0.p, z0.a, z0.b, v, z0.ch⟩), true), d) := by simp only [tdF, hz0, hpk]; rw [if_neg (by simpa using q0), if_neg (by simpa using q1)]; exact if_pos (by simpa using q2)
  rw [hT]; exact ⟨rfl, rfl⟩
 ·obtain ⟨z1, hz1⟩ : ∃ z, l[0]? = some z := ⟨_, List.getElem?_eq_getElem (by omega)⟩
  have hch := q0yv l 0 z1 [1, 1] hz1
  simp only [Nat.zero_mul, Nat.zero_add, intsO, List.map_cons, List.map_nil] at hch
  refine ⟨by omega, by omega, ?_⟩
  simp -implicitDefEqProofs only [eR', go_sem, hch]
  refine ⟨_, Weak.trans (Weak.close1 3 0 9 rfl rfl (by decide) rfl) (Weak.trans (Weak.share 3 rfl) (Weak.o [(0, .own 1000000000), (2, .own 2), (3, .t (.pin [nodes (l.set 0 ⟨z1.p, z1.a, z1.b, z1.f, [1, 1]⟩)] 0)), (4, .t (.i k))] [(1000000000, .box [bytes cs, .i c.1, .i c.2]), (2, .box [.v (.slice none 0 0)])] [some 1000000000, some 2] ?_ ?_)), ?_⟩
  ·simp -implicitDefEqProofs only [wR', Nat.reduceBEq, Nat.reduceEqDiff, ↓reduceIte, q0rg, T.toSh, T.toShL, q12g, nodes, List.set_cons_zero]
  ·exact ⟨⟨_, rfl, .refl _⟩, rfl, ⟨_, rfl, .refl _⟩, rfl, trivial⟩
  simp -implicitDefEqProofs only [eR', go_sem, nodes]
  have hT : tdF cs l k q c = ((l.set 0 ⟨z1.p, z1.a, z1.b, z1.f, [1, 1]⟩, true), c) := by simp only [tdF, hz0]; rw [if_neg (by simpa using q0), if_neg (by simpa using q1), if_neg (by simpa using q2), if_pos (by simpa using q3)]; simp only [q11m, hz1]
  rw [hT]; exact ⟨rfl, rfl⟩
 ·refine ⟨_, Weak.trans (Weak.close1 3 0 9 rfl rfl (by decide) rfl) (Weak.trans (Weak.share 3 rfl) (Weak.o [(0, .own 1000000000), (2, .own 2), (3, .t (.pin [nodes l] 0)), (4, .t (.i k))] [(1000000000, .box [bytes cs, .i c.1, .i c.2]), (2, .box [.v (.slice none 0 0)])] [some 1000000000, some 2] ?_ ?_)), ?_⟩
  ·simp -implicitDefEqProofs only [wR', Nat.reduceBEq, Nat.reduceEqDiff, ↓reduceIte, q0rg, T.toSh, T.toShL, q12g, nodes, List.set_cons_zero]
  ·exact ⟨⟨_, rfl, .refl _⟩, rfl, ⟨_, rfl, .refl _⟩, rfl, trivial⟩
  simp -implicitDefEqProofs only [eR', go_sem, nodes]
  have hT : tdF cs l k q c = ((l.take k, true), c) := by simp only [tdF, hz0]; rw [if_neg (by simpa using q0), if_neg (by simpa using q1), if_neg (by simpa using q2), if_neg (by simpa using q3)]; exact if_pos (by simpa using q4)
  rw [hT]
  refine ⟨by omega, by rw [q0l0]; omega, rfl, ?_⟩
  rw [q0z4, Nat.sub_zero, q0yy q0lx]; rfl
 ·refine ⟨_, Weak.trans (Weak.close1 3 0 9 rfl rfl (by decide) rfl) (Weak.trans (Weak.share 3 rfl) (Weak.o [(0, .own 1000000000), (2, .own 2), (3, .t (.pin [nodes l] 0)), (4, .t (.i k))] [(1000000000, .box [bytes cs, .i c.1, .i c.2]), (2, .box [.v (.slice none 0 0)])] [some 1000000000, some 2] ?_ ?_)), ?_⟩
  ·simp -implicitDefEqProofs only [wR', Nat.reduceBEq, Nat.reduceEqDiff, ↓reduceIte, q0rg, T.toSh, T.toShL, q12g, nodes, List.set_cons_zero]
  ·exact ⟨⟨_, rfl, .refl _⟩, rfl, ⟨_, rfl, .refl _⟩, rfl, trivial⟩
  obtain ⟨z1, hz1⟩ : ∃ z, l[l.length - 1]? = some z := ⟨_, List.getElem?_eq_getElem (by omega)⟩
  have hw : IntKind.i64.wrap ((l.length : Int) - 1) = ((l.length - 1 : Nat) : Int) := by rw [wrap64 (by omega) (by omega)]; omega
  simp -implicitDefEqProofs only [eR', go_sem, nodes, q0l0, hw, q0kw hz1, q0y2, show l.length * 5 / 5 = l.length by omega]
  refine ⟨⟨by omega, ⟨by omega, by omega, by omega, rfl, ?_, (q09v.refl _ _ _).upd _ (.inr rfl)⟩, ((q09v.refl _ _ _).upd _ (.inl (by simp))).upd _ (.inr rfl)⟩, (q09v.refl _ _ _).upd _ (.inr rfl)⟩
  generalize hR : q0k5 [60, 63] _ _ = R
  have h63 : R 63 = .live (.arr 5 (chunk q0lu l)) [] := by rw [← hR]; rfl
  have h73 : R 73 = .free := by rw [← hR]; rfl
  rw [h63, h73]
  have hT : tdF cs l k q c = ((l ++ [z1], false), c) := by simp only [tdF, hz0]; rw [if_neg (by simpa using q0), if_neg (by simpa using q1), if_neg (by simpa using q2), if_neg (by simpa using q3), if_neg (by simpa using q4), if_pos (by simpa using q5), hz1]; rfl
  rw [hT]
  refine ⟨rfl, by rw [q0l0]; omega, rfl, rfl, ?_⟩
  simp only [q0z4, q067]; rfl
 ·refine ⟨_, Weak.trans (Weak.close1 3 0 9 rfl rfl (by decide) rfl) (Weak.trans (Weak.share 3 rfl) (Weak.o [(0, .own 1000000000), (2, .own 2), (3, .t (.pin [nodes l] 0)), (4, .t (.i k))] [(1000000000, .box [bytes cs, .i c.1, .i c.2]), (2, .box [.v (.slice none 0 0)])] [some 1000000000, some 2] ?_ ?_)), ?_⟩
  ·simp -implicitDefEqProofs only [wR', Nat.reduceBEq, Nat.reduceEqDiff, ↓reduceIte, q0rg, T.toSh, T.toShL, q12g, nodes, List.set_cons_zero]
  ·exact ⟨⟨_, rfl, .refl _⟩, rfl, ⟨_, rfl, .refl _⟩, rfl, trivial⟩
  simp -implicitDefEqProofs only [eR', go_sem, nodes]
  have hT : tdF cs l k q c = ((l, true), c) := by simp only [tdF, hz0]; rw [if_neg (by simpa using q0), if_neg (by simpa using q1), if_neg (by simpa using q2), if_neg (by simpa using q3), if_neg (by simpa using q4), if_neg (by simpa using q5)]
  rw [hT]; exact ⟨rfl, rfl⟩
end
section
attribute [-go_sem] q0i5 q0id fldC lenC idxC q0ip q0lp
theorem q12a (l : List Nd) (hl : q0rx 1000 l) : Fun Tryz.prog 104 [] [.t (q0vz l)] fun o r => o = [] /\ r = .agg [q0m0 l] := by
 refine q0zw (by simp) ?_
 simp -implicitDefEqProofs only [eR', go_sem, q0yr, q0vz, nodes]
 refine SemC.loopR (σ := Nat) (fun i => St.of [(1, .own 1), (2, .own 2), (3, .own 96), (4, .t (.i i))] [(1, .box [nodes l]), (2, .box [.v (.slice none 0 0)]), (96, q0m0 (l.take i))]) (fun i => i <= l.length) (fun i => l.length - i) 0 (Weak.o _ _ [some 1, some 2, some 6] ?_ ?_) (by simp) fun i hi R hn hr he => ?_
 ·simp -implicitDefEqProofs only [wR', Nat.reduceBEq, Nat.reduceEqDiff, ↓reduceIte, nodes]
 ·exact ⟨⟨_, rfl, .refl _⟩, rfl, ⟨_, rfl, .refl _⟩, rfl, ⟨_, rfl, .refl _⟩, rfl, trivial⟩
 have hl1 := hl.1
 rcases Nat.lt_or_ge i l.length with h9 | h9
 ·obtain ⟨x, hx⟩ : ∃ x, l[i]? = some x := ⟨_, List.getElem?_eq_getElem h9⟩
  have hxl := hl.2 x (List.mem_of_getElem? hx)
  have hnt : (chunk q0lv (l.take i)).length = i * 5 := by rw [q06d q0lw, List.length_take, Nat.min_eq_left (by omega)]
  simp -implicitDefEqProofs only [eR', go_sem, nodes, q0m0, decide_eq_true (show (i : Int) < (l.length : Int) by omega), q0kw hx]
  refine ⟨by omega, by rw [q0l0]; omega, by rw [q0l0]; omega, ?_⟩
  have hp := q0s5 x.ch (by omega)
  simp only [ints, intsO] at hp
  refine q006.res hp [] rfl Tryz.call44 ?_ (.inl rfl) ?_
  ·simp -implicitDefEqProofs only [aR', go_sem]
  simp -implicitDefEqProofs only [cR', go_sem, opR, Nat.reduceBEq, hnt]
  refine ⟨by omega, hn _ (i + 1) (Weak.o _ _ [some 1, some 2, some 26] ?_ ?_) (by omega) (by omega)⟩
  ·simp -implicitDefEqProofs only [wR', Nat.reduceBEq, Nat.reduceEqDiff, ↓reduceIte, nodes, q0lb h9 (by omega)]
  ·refine ⟨⟨_, rfl, .refl _⟩, rfl, ⟨_, rfl, .refl _⟩, rfl, ⟨_, rfl, ?_⟩, rfl, trivial⟩
   rw [q0m0, q0uj hx, q067]; exact .refl _
 ·simp -implicitDefEqProofs only [eR', go_sem, nodes, decide_eq_false (show ¬ (i : Int) < (l.length : Int) by omega)]
  refine he _ _ ?_
  simp -implicitDefEqProofs only [eR', go_sem, q0m0]
  rw [List.take_of_length_le (by omega)]
theorem q121 (x y : Int) : Fun Tryz.prog 103 [] [.t (.i x), .t (.i y)] fun o r => ∃ z : Int, o = [] /\ r = .i z /\ (-1 <= z /\ z <= 1) := by
 refine q0zp (by simp) ?_
 simp -implicitDefEqProofs only [eR', go_sem, q0yk]
 refine ⟨fun h => ?_, fun h => ⟨fun h1 => ?_, fun h1 => ?_⟩⟩
 ·exact ⟨_, rfl, by omega, by omega⟩
 ·exact ⟨_, rfl, by omega, by omega⟩
 ·exact ⟨_, rfl, by omega, by omega⟩
def q11q (g : Gm) : Prop := q0rx 101 g.nd /\ g.w.length <= 4 /\ (∀ r ∈ g.w, r.length <= 4) /\ g.v.length <= 4 /\ ∀ r ∈ g.v, r.length <= 4
theorem q11k {m : List (List Int)} {r : List Int} {k : Nat} (h : ∀ x ∈ m, x.length = k) (hr : r.length = k) : ∀ x ∈ m ++ [r], x.length = k := by
 intro x hx
 rcases List.mem_append.1 hx with hx | hx
 ·exact h x hx
 ·simp at hx; rw [hx]; exact hr
theorem q129 (l : List Nd) (hl : q0rx 101 l) (k : Nat) (hk : k <= 4) (ag : Bool) : Fun Tryz.prog 92 [] [.t (q0vz l), .t (.i k), .t (.b ag)] fun o r => ∃ g : Gm, o = [] /\ r = q0cg g /\ (g.nd = l /\ g.w.length = k /\ (∀ r ∈ g.w, r.length = k) /\ g.v.length = k /\ ∀ r ∈ g.v, r.length = k) := by
 refine q0zv (by simp) ?_
 simp -implicitDefEqProofs only [eR', go_sem, q0yq, q0vz, nodes]
 refine SemC.loopR (σ := List (List Int) × List (List Int)) (fun s => St.of [(1, .t (.i k)), (2, .t (.b ag)), (3, .own 3), (6, .own 6), (7, .own 96), (8, .own 97), (9, .t (.i s.1.length))] [(3, .box [nodes l]), (6, .box [.v (.slice none 0 0), .v (.slice none 0 0), .v (.slice none 0 0)]), (96, q0qa s.1), (97, q0qa s.2)]) (fun s => s.1.length <= k /\ s.2.length = s.1.length /\ (∀ r ∈ s.1, r.length = k) /\ ∀ r ∈ s.2, r.length = k) (fun s => k - s.1.length) ([], []) (Weak.o _ _ [some 3, some 6, some 13, some 14] ?_ ?_) (by simp) fun s hI R hn hr he => ?_
 ·simp -implicitDefEqProofs only [wR', Nat.reduceBEq, Nat.reduceEqDiff, ↓reduceIte, nodes, List.length_nil]
 ·exact ⟨⟨_, rfl, .refl _⟩, rfl, ⟨_, rfl, .refl _⟩, rfl, ⟨_, rfl, .refl _⟩, rfl, ⟨_, rfl, .refl _⟩, rfl, trivial⟩
 obtain ⟨w, v⟩ := s
 obtain ⟨i1, i2, i3, i4⟩ := hI
 (try simp only [] at i1 i2 i3 i4)
 rcases Nat.lt_or_ge w.length k with h9 | h9
 ·simp -implicitDefEqProofs only [eR', go_sem, nodes, q0qa, decide_eq_true (show (w.length : Int) < (k : Int) by omega)]
  refine SemC.loopR (σ := List Int × List Int) (fun s => St.of [(1, .t (.i k)), (2, .t (.b ag)), (3, .own 3), (6, .own 6), (7, .own 96), (8, .own 97), (9, .t (.i w.length)), (10, .own 98), (11, .own 99), (12, .t (.i s.1.length))] [(3, .box [nodes l]), (6, .box [.v (.slice none 0 0), .v (.slice none 0 0), .v (.slice none 0 0)]), (96, q0qa w), (97, q0qa v), (98, intsO s.1), (99, intsO s.2)]) (fun s => s.1.length <= k /\ s.2.length = s.1.length) (fun s => k - s.1.length) ([], []) (Weak.o _ _ [some 3, some 6, some 96, some 97, some 20, some 21] ?_ ?_) (by simp) fun s hI R2 hn2 hr2 he2 => ?_
  ·simp -implicitDefEqProofs only [wR', Nat.reduceBEq, Nat.reduceEqDiff, ↓reduceIte, nodes, List.length_nil]
  ·exact ⟨⟨_, rfl, .refl _⟩, rfl, ⟨_, rfl, .refl _⟩, rfl, ⟨_, rfl, .refl _⟩, rfl, ⟨_, rfl, .refl _⟩, rfl, ⟨_, rfl, .refl _⟩, rfl, ⟨_, rfl, .refl _⟩, rfl, trivial⟩
  obtain ⟨p, q⟩ := s
  obtain ⟨j1, j2⟩ := hI
  (try simp only [] at j1 j2)
  rcases Nat.lt_or_ge p.length k with h8 | h8
  ·simp -implicitDefEqProofs only [eR', go_sem, nodes, q0qa, intsO, decide_eq_true (show (p.length : Int) < (k : Int) by omega)]
   refine ⟨fun _ => ⟨fun _ => ⟨by omega, ?_⟩, fun _ => ⟨by omega, ?_⟩⟩, fun _ => ⟨by omega, ?_⟩⟩
   ·refine q006.exi (q121 (w.length : Int) (p.length : Int)) [] [] rfl Tryz.call103 (by simp) ?_ (by simp) ?_ (.inl rfl) (fun z hz => ?_)
    ·simp -implicitDefEqProofs only [sR', Nat.reduceEqDiff, ↓reduceIte]
    ·simp -implicitDefEqProofs only [aR', go_sem]
    simp -implicitDefEqProofs only [cR', go_sem, intsO]
    refine ⟨by omega, hn2 _ (p ++ [0], q ++ [z]) (Weak.o _ _ [some 3, some 6, some 96, some 97, some 36, some 45] ?_ ?_) ⟨by simp; omega, by simp; omega⟩ (by simp; omega)⟩
    ·simp -implicitDefEqProofs only [wR', Nat.reduceBEq, Nat.reduceEqDiff, ↓reduceIte, nodes, q0lb h8 (by omega), List.length_append, List.length_cons, List.length_nil]
    ·refine ⟨⟨_, rfl, .refl _⟩, rfl, ⟨_, rfl, .refl _⟩, rfl, ⟨_, rfl, .refl _⟩, rfl, ⟨_, rfl, .refl _⟩, rfl, ⟨_, rfl, ?_⟩, rfl, ⟨_, rfl, ?_⟩, rfl, trivial⟩
     ·simp only [intsO, List.map_append, List.map_cons, List.map_nil]; exact .refl _
     ·simp only [intsO, List.map_append, List.map_cons, List.map_nil]; exact .refl _
   ·refine q006.exi (q121 (w.length : Int) (p.length : Int)) [] [] rfl Tryz.call103 (by simp) ?_ (by simp) ?_ (.inl rfl) (fun z hz => ?_)
    ·simp -implicitDefEqProofs only [sR', Nat.reduceEqDiff, ↓reduceIte]
    ·simp -implicitDefEqProofs only [aR', go_sem]
    simp -implicitDefEqProofs only [cR', go_sem, intsO]
    refine ⟨by omega, hn2 _ (p ++ [1], q ++ [z]) (Weak.o _ _ [some 3, some 6, some 96, some 97, some 39, some 45] ?_ ?_) ⟨by simp; omega, by simp; omega⟩ (by simp; omega)⟩
    ·simp -implicitDefEqProofs only [wR', Nat.reduceBEq, Nat.reduceEqDiff, ↓reduceIte, nodes, q0lb h8 (by omega), List.length_append, List.length_cons, List.length_nil]
    ·refine ⟨⟨_, rfl, .refl _⟩, rfl, ⟨_, rfl, .refl _⟩, rfl, ⟨_, rfl, .refl _⟩, rfl, ⟨_, rfl, .refl _⟩, rfl, ⟨_, rfl, ?_⟩, rfl, ⟨_, rfl, ?_⟩, rfl, trivial⟩
     ·simp only [intsO, List.map_append, List.map_cons, List.map_nil]; exact .refl _
     ·simp only [intsO, List.map_append, List.map_cons, List.map_nil]; exact .refl _
   ·refine q006.exi (q121 (w.length : Int) (p.length : Int)) [] [] rfl Tryz.call103 (by simp) ?_ (by simp) ?_ (.inl rfl) (fun z hz => ?_)
    ·simp -implicitDefEqProofs only [sR', Nat.reduceEqDiff, ↓reduceIte]
    ·simp -implicitDefEqProofs only [aR', go_sem]
    simp -implicitDefEqProofs only [cR', go_sem, intsO]
    refine ⟨by omega, hn2 _ (p ++ [1], q ++ [z]) (Weak.o _ _ [some 3, some 6, some 96, some 97, some 39, some 45] ?_ ?_) ⟨by simp; omega, by simp; omega⟩ (by simp; omega)⟩
    ·simp -implicitDefEqProofs only [wR', Nat.reduceBEq, Nat.reduceEqDiff, ↓reduceIte, nodes, q0lb h8 (by omega), List.length_append, List.length_cons, List.length_nil]
    ·refine ⟨⟨_, rfl, .refl _⟩, rfl, ⟨_, rfl, .refl _⟩, rfl, ⟨_, rfl, .refl _⟩, rfl, ⟨_, rfl, .refl _⟩, rfl, ⟨_, rfl, ?_⟩, rfl, ⟨_, rfl, ?_⟩, rfl, trivial⟩
     ·simp only [intsO, List.map_append, List.map_cons, List.map_nil]; exact .refl _
     ·simp only [intsO, List.map_append, List.map_cons, List.map_nil]; exact .refl _
  ·simp -implicitDefEqProofs only [eR', go_sem, nodes, q0qa, intsO, decide_eq_false (show ¬ (p.length : Int) < (k : Int) by omega)]
   refine he2 _ _ ?_
   simp -implicitDefEqProofs only [eR', go_sem, nodes, q0qa, intsO]
   refine ⟨by omega, by omega, hn _ (w ++ [p], v ++ [q]) (Weak.o _ _ [some 3, some 6, some 49, some 53] ?_ ?_) ⟨by simp; omega, by simp; omega, q11k i3 (by omega), q11k i4 (by omega)⟩ (by simp; omega)⟩
   ·simp -implicitDefEqProofs only [wR', Nat.reduceBEq, Nat.reduceEqDiff, ↓reduceIte, nodes, q0lb h9 (by omega), List.length_append, List.length_cons, List.length_nil]
   ·refine ⟨⟨_, rfl, .refl _⟩, rfl, ⟨_, rfl, .refl _⟩, rfl, ⟨_, rfl, ?_⟩, rfl, ⟨_, rfl, ?_⟩, rfl, trivial⟩
    ·simp only [q0qa, intsO, List.map_append, List.map_cons, List.map_nil]; exact .refl _
    ·simp only [q0qa, intsO, List.map_append, List.map_cons, List.map_nil]; exact .refl _
 ·simp -implicitDefEqProofs only [eR', go_sem, nodes, decide_eq_false (show ¬ (w.length : Int) < (k : Int) by omega)]
  refine he _ _ ?_
  have hp := q12a l ⟨by have := hl.1; omega, hl.2⟩
  simp only [q0vz, nodes] at hp
  simp -implicitDefEqProofs only [eR', go_sem, nodes, q0qa]
  simp only [q0m0] at hp
  refine q006.res hp [] rfl Tryz.call104 ?_ (.inl rfl) ?_
  ·simp -implicitDefEqProofs only [aR', go_sem]
  simp -implicitDefEqProofs only [cR', go_sem, opR, Nat.reduceBEq]
  exact ⟨⟨l, w, v⟩, rfl, rfl, by show w.length = k; omega, i3, by show v.length = k; omega, i4⟩
theorem q10q : ∀ {l : List T}, (∀ t ∈ l, t.noSh) -> T.noShL l
 | [], _ => trivial
 | t :: l, h => ⟨h t (List.mem_cons_self ..), q10q fun x hx => h x (List.mem_cons_of_mem _ hx)⟩
theorem q10s (l : List Nd) : (T.arr 5 (chunk q0lv l)).noSh := by
 refine q10q fun t ht => ?_
 simp only [chunk, List.mem_flatMap] at ht
 obtain ⟨x, _, hx⟩ := ht
 simp only [q0lv, List.mem_cons, List.not_mem_nil, or_false] at hx
 rcases hx with rfl | rfl | rfl | rfl | rfl
 ·trivial
 ·trivial
 ·trivial
 ·trivial
 ·exact q0fh _
theorem q0zz (g : Gm) : (T.agg [.arr 5 (chunk q0lv g.nd), .arr 1 (g.w.map intsO), .arr 1 (g.v.map intsO)]).noSh := ⟨q10s _, q0qb _, q0qb _, trivial⟩
def q10i (k : Nat) (m : List (List Int)) : Prop := m.length = k /\ ∀ r ∈ m, r.length = k
theorem q10k {k : Nat} {m : List (List Int)} (h : q10i k m) (a : Nat) {r : List Int} (hr : r.length = k) : q10i k (m.set a r) := by
 refine ⟨by rw [List.length_set]; exact h.1, fun x hx => ?_⟩
 rcases List.mem_or_eq_of_mem_set hx with hx | rfl
 ·exact h.2 x hx
 ·exact hr
theorem q10j {k : Nat} {m : List (List Int)} (h : q10i k m) {a : Nat} (ha : a < k) : ∃ r, m[a]? = some r /\ r.length = k := by
 have h1 : a < m.length := by rw [h.1]; exact ha
 exact ⟨m[a], List.getElem?_eq_getElem h1, h.2 _ (List.getElem_mem h1)⟩
def drG (g : Gm) : Prop := q0rx 101 g.nd /\ ∃ k, 1 <= k /\ k <= 4 /\ q10i k g.w /\ q10i k g.v
theorem q0z2 {g : Gm} (h : drG g) : q11q g := by
 obtain ⟨h1, k, h2, h3, h4, h5⟩ := h
 exact ⟨h1, by have := h4.1; omega, fun r hr => by have := h4.2 r hr; omega, by have := h5.1; omega, fun r hr => by have := h5.2 r hr; omega⟩
theorem q11x : Fun Tryz.prog 91 [] [] fun o r => ∃ g : Gm, o = [] /\ r = q0cg g /\ drG g := by
 refine q0zk (by simp) ?_
 simp -implicitDefEqProofs only [eR', go_sem, q0yf]
 obtain ⟨l', hl1, hl2, hp⟩ := q11u 1 1 0 (by omega) (by omega) (by omega) (by omega) (by omega)
 have hl' : q0rx 100 l' /\ 0 < l'.length := ⟨hl1, hl2⟩
 simp only [show ((0 : Nat) : Int) = 0 from rfl, q0m0] at hp
 refine q006.res hp [] rfl Tryz.call102 ?_ (.inl rfl) ?_
 ·simp -implicitDefEqProofs only [aR', go_sem]
 simp -implicitDefEqProofs only [cR', go_sem, opR, Nat.reduceBEq]
 have hq := q129 l' ⟨by have := hl'.1.1; omega, hl'.1.2⟩ 3 (by omega) false
 simp only [q0vz, nodes, q0cg, q0m0, q0qa, show ((3 : Nat) : Int) = 3 from rfl] at hq
 refine q006.exi hq [] [8001] rfl Tryz.call92 (by simp) ?_ (by simp) ?_ (.inr (fun g => ⟨q0zz g, trivial⟩)) (fun g hg => ?_)
 ·simp -implicitDefEqProofs only [sR', Nat.reduceEqDiff, ↓reduceIte]
 ·simp -implicitDefEqProofs only [aR', go_sem]
 simp -implicitDefEqProofs only [cR', go_sem, opR, Nat.reduceBEq]
 obtain ⟨g1, g2, g3, g4, g5⟩ := hg
 exact ⟨g, rfl, ⟨by rw [g1]; have := hl'.1.1; omega, by rw [g1]; exact hl'.1.2⟩, 3, by omega, by omega, ⟨g2, g3⟩, ⟨g4, g5⟩⟩
theorem q12b (cs : List Int) (hc : q161 cs) (hl : cs.length <= 100000000000) (a : Nat × Int) (ha : q0qx a) : Fun Tryz.prog 82 [.box [bytes cs, .i a.1, .i a.2]] [.own 1000000000] fun o r => ∃ x : Gm × (Nat × Int), o = [.box [bytes cs, .i x.2.1, .i x.2.2]] /\ r = .agg [q0m0 x.1.nd, q0qa x.1.w, q0qa x.1.v] /\ (drG x.1 /\ q0qx x.2) := by
 refine q0zx (by simp) ?_
 simp -implicitDefEqProofs only [eR', go_sem, q0ys]
 refine q006.ref (q10p cs hc hl a ha 6 (by omega)) [1000000000] [] rfl Tryz.call37 (by simp) ?_ (by simp) ?_ (.inl rfl) ?_
 ·simp -implicitDefEqProofs only [sR', Nat.reduceEqDiff, ↓reduceIte]
 ·simp -implicitDefEqProofs only [aR', go_sem]
 simp -implicitDefEqProofs only [cR', go_sem]
 have hs1 := q10o (cs := cs) hl ha 6
 generalize q10m cs a 6 = z at hs1 ⊢
 obtain ⟨k, b⟩ := z
 simp only [] at hs1 ⊢
 refine ⟨fun h0 => ?_, fun h0 => ⟨fun h1 => ?_, fun h1 => ?_⟩⟩
 ·have hp := q11x
  simp only [q0cg, q0m0, q0qa] at hp
  refine q006.exi hp [] [] rfl Tryz.call91 (by simp) ?_ (by simp) ?_ (.inl rfl) (fun g hg => ?_)
  ·simp -implicitDefEqProofs only [sR', Nat.reduceEqDiff, ↓reduceIte]
  ·simp -implicitDefEqProofs only [aR', go_sem]
  simp -implicitDefEqProofs only [cR', go_sem, opR, Nat.reduceBEq]
  exact ⟨(g, b), rfl, rfl, hg, hs1⟩
 ·obtain ⟨⟨l, c⟩, ⟨hx1, hx2, hx3⟩, hV⟩ := q127 cs hc hl b hs1
  simp only [q0m0] at hx1 hx2 hx3 hV
  refine q006.ref hV [1000000000] [] rfl Tryz.call93 (by simp) ?_ (by simp) ?_ (.inl rfl) ?_
  ·simp -implicitDefEqProofs only [sR', Nat.reduceEqDiff, ↓reduceIte]
  ·simp -implicitDefEqProofs only [aR', go_sem]
  simp -implicitDefEqProofs only [cR', go_sem]
  refine q006.ref (q10p cs hc hl c hx3 2 (by omega)) [1000000000] [] rfl Tryz.call37 (by simp) ?_ (by simp) ?_ (.inl rfl) ?_
  ·simp -implicitDefEqProofs only [sR', Nat.reduceEqDiff, ↓reduceIte]
  ·simp -implicitDefEqProofs only [aR', go_sem]
  simp -implicitDefEqProofs only [cR', go_sem]
  have hs2 := q10o (cs := cs) hl hx3 2
  have hb2 := q10n (cs := cs) (a := c) (n := 2) (by omega)
  generalize q10m cs c 2 = z at hs2 hb2 ⊢
  obtain ⟨q, d⟩ := z
  simp only [] at hs2 hb2 ⊢
  obtain ⟨k, hk⟩ : ∃ n : Nat, IntKind.i64.wrap (2 + q) = n := ⟨(2 + q).toNat, by rw [wrap64 (by omega) (by omega)]; omega⟩
  have hk3 : 2 <= k /\ k <= 3 := by rw [wrap64 (by omega) (by omega)] at hk; omega
  simp only [hk]
  have hq := q129 l ⟨by have := hx1.1; omega, hx1.2⟩ k (by omega) true
  simp only [q0vz, nodes, q0cg, q0m0, q0qa] at hq
  refine q006.exi hq [] [15] rfl Tryz.call92 (by simp) ?_ (by simp) ?_ (.inr (fun g => ⟨q0zz g, trivial⟩)) (fun g hg => ?_)
  ·simp -implicitDefEqProofs only [sR', Nat.reduceEqDiff, ↓reduceIte]
  ·simp -implicitDefEqProofs only [aR', go_sem]
  simp -implicitDefEqProofs only [cR', go_sem, opR, Nat.reduceBEq]
  obtain ⟨g1, g2, g3, g4, g5⟩ := hg
  exact ⟨(g, d), rfl, rfl, ⟨⟨by rw [g1]; have := hx1.1; omega, by rw [g1]; exact hx1.2⟩, k, by omega, by omega, ⟨g2, g3⟩, ⟨g4, g5⟩⟩, hs2⟩
 ·refine q006.ref (q10p cs hc hl b hs1 3 (by omega)) [1000000000] [] rfl Tryz.call37 (by simp) ?_ (by simp) ?_ (.inl rfl) ?_
  ·simp -implicitDefEqProofs only [sR', Nat.reduceEqDiff, ↓reduceIte]
  ·simp -implicitDefEqProofs only [aR', go_sem]
  simp -implicitDefEqProofs only [cR', go_sem]
  have hs2 := q10o (cs := cs) hl hs1 3
  have hb2 := q10n (cs := cs) (a := b) (n := 3) (by omega)
  generalize q10m cs b 3 = z at hs2 hb2 ⊢
  obtain ⟨q, d⟩ := z
  simp only [] at hs2 hb2 ⊢
  obtain ⟨k, hk⟩ : ∃ n : Nat, IntKind.i64.wrap (1 + q) = n := ⟨(1 + q).toNat, by rw [wrap64 (by omega) (by omega)]; omega⟩
  have hk3 : 1 <= k /\ k <= 3 := by rw [wrap64 (by omega) (by omega)] at hk; omega
  simp only [hk]
  obtain ⟨⟨l, c⟩, ⟨hx1, hx2, hx3⟩, hV⟩ := q127 cs hc hl d hs2
  simp only [q0m0] at hx1 hx2 hx3 hV
  refine q006.ref hV [1000000000] [] rfl Tryz.call93 (by simp) ?_ (by simp) ?_ (.inl rfl) ?_
  ·simp -implicitDefEqProofs only [sR', Nat.reduceEqDiff, ↓reduceIte]
  ·simp -implicitDefEqProofs only [aR', go_sem]
  simp -implicitDefEqProofs only [cR', go_sem]
  have hq := q129 l ⟨by have := hx1.1; omega, hx1.2⟩ k (by omega) true
  simp only [q0vz, nodes, q0cg, q0m0, q0qa] at hq
  refine q006.exi hq [] [24] rfl Tryz.call92 (by simp) ?_ (by simp) ?_ (.inr (fun g => ⟨q0zz g, trivial⟩)) (fun g hg => ?_)
  ·simp -implicitDefEqProofs only [sR', Nat.reduceEqDiff, ↓reduceIte]
  ·simp -implicitDefEqProofs only [aR', go_sem]
  simp -implicitDefEqProofs only [cR', go_sem, opR, Nat.reduceBEq]
  obtain ⟨g1, g2, g3, g4, g5⟩ := hg
  obtain rfl : g.nd = l := g1
  refine SemC.loopR (σ := Nat × (List (List Int) × List (List Int)) × (Nat × Int)) (fun s => St.of [(0, .own 1000000000), (2, .own 2), (3, .t (.i k)), (4, .own 4), (5, .t (.i s.1))] [(1000000000, .box [bytes cs, .i s.2.2.1, .i s.2.2.2]), (2, .box [.v (.slice none 0 0), .v (.slice none 0 0), .v (.slice none 0 0)]), (4, .box [q0m0 g.nd, q0qa s.2.1.1, q0qa s.2.1.2])]) (fun s => s.1 <= k /\ q10i k s.2.1.1 /\ q10i k s.2.1.2 /\ q0qx s.2.2) (fun s => k - s.1) (0, (g.w, g.v), c) (Weak.o _ _ [some 1000000000, some 2, some 4] ?_ ?_) ⟨by simp, ⟨g2, g3⟩, ⟨g4, g5⟩, hx3⟩ fun s hI R hn hr he => ?_
  ·simp -implicitDefEqProofs only [wR', Nat.reduceBEq, Nat.reduceEqDiff, ↓reduceIte, q0m0]
  ·exact ⟨⟨_, rfl, .refl _⟩, rfl, ⟨_, rfl, .refl _⟩, rfl, ⟨_, rfl, .refl _⟩, rfl, trivial⟩
  obtain ⟨i, ⟨w, v⟩, e⟩ := s
  obtain ⟨i1, i2, i3, i4⟩ := hI
  (try simp only [] at i1 i2 i3 i4)
  rcases Nat.lt_or_ge i k with h9 | h9
  ·simp -implicitDefEqProofs only [eR', go_sem, q0m0, q0qa, decide_eq_true (show (i : Int) < (k : Int) by omega)]
   refine SemC.loopR (σ := Nat × (List (List Int) × List (List Int)) × (Nat × Int)) (fun s => St.of [(0, .own 1000000000), (2, .own 2), (3, .t (.i k)), (4, .own 4), (5, .t (.i i)), (6, .t (.i s.1))] [(1000000000, .box [bytes cs, .i s.2.2.1, .i s.2.2.2]), (2, .box [.v (.slice none 0 0), .v (.slice none 0 0), .v (.slice none 0 0)]), (4, .box [q0m0 g.nd, q0qa s.2.1.1, q0qa s.2.1.2])]) (fun s => s.1 <= k /\ q10i k s.2.1.1 /\ q10i k s.2.1.2 /\ q0qx s.2.2) (fun s => k - s.1) (0, (w, v), e) (Weak.o _ _ [some 1000000000, some 2, some 4] ?_ ?_) ⟨by simp, i2, i3, i4⟩ fun s hI R2 hn2 hr2 he2 => ?_
   ·simp -implicitDefEqProofs only [wR', Nat.reduceBEq, Nat.reduceEqDiff, ↓reduceIte, q0m0]
   ·exact ⟨⟨_, rfl, .refl _⟩, rfl, ⟨_, rfl, .refl _⟩, rfl, ⟨_, rfl, .refl _⟩, rfl, trivial⟩
   obtain ⟨j, ⟨w', v'⟩, f⟩ := s
   obtain ⟨j1, j2, j3, j4⟩ := hI
   (try simp only [] at j1 j2 j3 j4)
   obtain ⟨r0, hr0, hr0l⟩ := q10j j2 h9
   obtain ⟨s0, hs0, hs0l⟩ := q10j j3 h9
   rcases Nat.lt_or_ge j k with h8 | h8
   ·simp -implicitDefEqProofs only [eR', go_sem, q0m0, q0qa, decide_eq_true (show (j : Int) < (k : Int) by omega)]
    refine ⟨_, Weak.trans (Weak.open 4 1 501 rfl rfl rfl (by decide) rfl) (Weak.open 501 i 502 (l := w'.map intsO) (lk := []) (c := intsO r0) rfl (by rw [List.getElem?_map, hr0]; rfl) rfl (by decide) rfl), ?_⟩
    simp -implicitDefEqProofs only [eR', go_sem, List.lookup_cons, beq_self_eq_true, intsO, List.length_set]
    have hwl : w'.length = k := j2.1
    have hvl : v'.length = k := j3.1
    refine ⟨by omega, by omega, by omega, ?_⟩
    refine q002.ref (q10p cs hc hl f j4 4 (by omega)) [1000000000] [] rfl Tryz.call37 (by simp) ?_ (by simp) (fun e R' hR => ?_) (.inl rfl) ?_
    ·simp -implicitDefEqProofs only [sR', Nat.reduceEqDiff, ↓reduceIte]
    ·simp -implicitDefEqProofs only [aR', go_sem]
    simp -implicitDefEqProofs only [cR', go_sem]
    have hs5 := q10o (cs := cs) hl j4 4
    generalize q10m cs f 4 = z at hs5 ⊢
    obtain ⟨y, f2⟩ := z
    simp only [] at hs5 ⊢
    refine ⟨?_, (q09v.refl _ _ _).upd _ (.inl (by simp))⟩
    refine ⟨by omega, by omega, by omega, ?_⟩
    refine q006.ref (q10p cs hc hl f2 hs5 4 (by omega)) [1000000000] [] rfl Tryz.call37 (by simp) ?_ (by simp) ?_ (.inl rfl) ?_
    ·simp -implicitDefEqProofs only [sR', Nat.reduceEqDiff, ↓reduceIte]
    ·simp -implicitDefEqProofs only [aR', go_sem]
    simp -implicitDefEqProofs only [cR', go_sem]
    have hs6 := q10o (cs := cs) hl hs5 4
    generalize q10m cs f2 4 = z at hs6 ⊢
    obtain ⟨y2, f3⟩ := z
    simp only [] at hs6 ⊢
    have hany : ((w'.map intsO).set i T.any)[i]? = some .any := by rw [List.getElem?_set_self (by rw [List.length_map]; omega)]
    have hany2 : ((v'.map intsO).set i T.any)[i]? = some .any := by rw [List.getElem?_set_self (by rw [List.length_map]; omega)]
    have hrow : ((w'.map intsO).set i T.any).set i (.arr 1 ((r0.map T.i).set j (.i y))) = (w'.set i (r0.set j y)).map intsO := by
     rw [List.set_set, List.map_set, intsO, List.map_set]
    refine ⟨fun hz => ?_, fun hz => ?_⟩
    ·refine ⟨_, Weak.trans (Weak.close1 501 i 502 rfl rfl (by decide) hany) (Weak.trans (Weak.close1 4 1 501 rfl rfl (by decide) rfl) (Weak.trans (Weak.open 4 2 503 rfl rfl rfl (by decide) rfl) (Weak.open 503 i 504 (l := v'.map intsO) (lk := []) (c := intsO s0) rfl (by rw [List.getElem?_map, hs0]; rfl) rfl (by decide) rfl))), ?_⟩
     simp -implicitDefEqProofs only [eR', go_sem, List.lookup_cons, beq_self_eq_true, intsO, List.length_set]
     refine ⟨by omega, by omega, by omega, ?_⟩
     refine q002.ref (q10p cs hc hl f3 hs6 3 (by omega)) [1000000000] [] rfl Tryz.call37 (by simp) ?_ (by simp) (fun e R' hR => ?_) (.inl rfl) ?_
     ·simp -implicitDefEqProofs only [sR', Nat.reduceEqDiff, ↓reduceIte]
     ·simp -implicitDefEqProofs only [aR', go_sem]
     simp -implicitDefEqProofs only [cR', go_sem]
     have hs7 := q10o (cs := cs) hl hs6 3
     generalize q10m cs f3 3 = z at hs7 ⊢
     obtain ⟨y3, f4⟩ := z
     simp only [] at hs7 ⊢
     have hrow2 : ((v'.map intsO).set i T.any).set i (.arr 1 ((s0.map T.i).set j (.i (IntKind.i64.wrap (y3 - 1))))) = (v'.set i (s0.set j (IntKind.i64.wrap (y3 - 1)))).map intsO := by
      rw [List.set_set, List.map_set, intsO, List.map_set]
     refine ⟨?_, (q09v.refl _ _ _).upd _ (.inl (by simp))⟩
     refine ⟨by omega, by omega, by omega, ?_⟩
     refine hn2 _ (j + 1, (w'.set i (r0.set j y), v'.set i (s0.set j (IntKind.i64.wrap (y3 - 1)))), f4) (Weak.trans (Weak.close1 503 i 504 rfl rfl (by decide) hany2) (Weak.trans (Weak.close1 4 2 503 rfl rfl (by decide) rfl) (Weak.o _ _ [some 1000000000, some 2, some 4] ?_ ?_))) ⟨by omega, q10k j2 _ (by rw [List.length_set]; exact hr0l), q10k j3 _ (by rw [List.length_set]; exact hs0l), hs7⟩ (by show k - (j + 1) < k - j; omega)
     ·simp -implicitDefEqProofs only [wR', Nat.reduceBEq, Nat.reduceEqDiff, ↓reduceIte, q0m0, q0lb h8 (by omega)]
     ·refine ⟨⟨_, rfl, .refl _⟩, rfl, ⟨_, rfl, .refl _⟩, rfl, ⟨_, rfl, ?_⟩, rfl, trivial⟩
      have hrow1 : (w'.map intsO).set i (.arr 1 ((r0.map T.i).set j (.i y))) = (w'.set i (r0.set j y)).map intsO := by rw [List.map_set, intsO, List.map_set]
      rw [hrow2, hrow1]; exact .refl _
    ·refine hn2 _ (j + 1, (w'.set i (r0.set j y), v'), f3) (Weak.trans (Weak.close1 501 i 502 rfl rfl (by decide) hany) (Weak.trans (Weak.close1 4 1 501 rfl rfl (by decide) rfl) (Weak.o _ _ [some 1000000000, some 2, some 4] ?_ ?_))) ⟨by omega, q10k j2 _ (by rw [List.length_set]; exact hr0l), j3, hs6⟩ (by show k - (j + 1) < k - j; omega)
     ·simp -implicitDefEqProofs only [wR', Nat.reduceBEq, Nat.reduceEqDiff, ↓reduceIte, q0m0, q0lb h8 (by omega)]
     ·refine ⟨⟨_, rfl, .refl _⟩, rfl, ⟨_, rfl, .refl _⟩, rfl, ⟨_, rfl, ?_⟩, rfl, trivial⟩
      rw [hrow]; exact .refl _
   ·simp -implicitDefEqProofs only [eR', go_sem, q0m0, q0qa, decide_eq_false (show ¬ (j : Int) < (k : Int) by omega)]
    refine he2 _ _ ?_
    simp -implicitDefEqProofs only [eR', go_sem, q0m0, q0qa]
    refine hn _ (i + 1, (w', v'), f) (Weak.o _ _ [some 1000000000, some 2, some 4] ?_ ?_) ⟨by omega, j2, j3, j4⟩ (by show k - (i + 1) < k - i; omega)
    ·simp -implicitDefEqProofs only [wR', Nat.reduceBEq, Nat.reduceEqDiff, ↓reduceIte, q0m0, q0lb h9 (by omega)]
    ·exact ⟨⟨_, rfl, .refl _⟩, rfl, ⟨_, rfl, .refl _⟩, rfl, ⟨_, rfl, .refl _⟩, rfl, trivial⟩
  ·simp -implicitDefEqProofs only [eR', go_sem, q0m0, q0qa, decide_eq_false (show ¬ (i : Int) < (k : Int) by omega)]
   refine he _ _ ?_
   simp -implicitDefEqProofs only [eR', go_sem, q0m0, q0qa]
   obtain ⟨r0, hr0, hr0l⟩ := q10j i2 (a := 0) (by omega)
   obtain ⟨y, hy⟩ : ∃ y, r0[0]? = some y := ⟨_, List.getElem?_eq_getElem (by omega)⟩
   have hwl : w.length = k := i2.1
   refine ⟨_, Weak.trans (Weak.open 4 1 501 rfl rfl rfl (by decide) rfl) (Weak.open 501 0 502 (l := w.map intsO) (lk := []) (c := intsO r0) rfl (by rw [List.getElem?_map, hr0]; rfl) rfl (by decide) rfl), ?_⟩
   simp -implicitDefEqProofs only [eR', go_sem, List.lookup_cons, beq_self_eq_true, intsO, List.length_set, hy]
   have hany : ((w.map intsO).set 0 T.any)[0]? = some .any := by rw [List.getElem?_set_self (by rw [List.length_map]; omega)]
   refine ⟨by omega, by omega, by omega, by omega, by omega, by omega, by omega, by omega, _, Weak.trans (Weak.close1 501 0 502 rfl rfl (by decide) hany) (Weak.close1 4 1 501 rfl rfl (by decide) rfl), ?_⟩
   simp -implicitDefEqProofs only [eR', go_sem, opR, Nat.reduceBEq, List.set_set]
   refine ⟨(⟨g.nd, w.set 0 (r0.set 0 (max 1 y)), v⟩, e), rfl, ?_, ⟨⟨by have := hx1.1; show g.nd.length <= 101; omega, hx1.2⟩, k, by omega, by omega, q10k i2 _ (by rw [List.length_set]; exact hr0l), i3⟩, i4⟩
   simp only [List.map_set, intsO]
def q0z3 (b : Bool) (g : Gm) : T := .agg [if b then nodes g.nd else .arr 5 (chunk q0lu g.nd), rows g.w, rows g.v]
theorem q128 (cs : List Int) (hc : q161 cs) (hl : cs.length <= 100000000000) (a : Nat × Int) (ha : q0qx a) : Fun Tryz.prog 65 [.box [bytes cs, .i a.1, .i a.2]] [.own 1000000000] fun o r => ∃ x : (Gm × Bool) × (Nat × Int), o = [.box [bytes cs, .i x.2.1, .i x.2.2]] /\ r = q0z3 x.1.2 x.1.1 /\ (q11q x.1.1 /\ q0qx x.2) := by
 refine q0zu (by simp) ?_
 simp -implicitDefEqProofs only [eR', go_sem, q0yp]
 have hp0 := q12b cs hc hl a ha
 simp only [q0m0, q0qa] at hp0
 refine q006.exi hp0 [1000000000] [] rfl Tryz.call82 (by simp) ?_ (by simp) ?_ (.inl rfl) (fun x hx => ?_)
 ·simp -implicitDefEqProofs only [sR', Nat.reduceEqDiff, ↓reduceIte]
 ·simp -implicitDefEqProofs only [aR', go_sem]
 simp -implicitDefEqProofs only [cR', go_sem, opR, Nat.reduceBEq]
 obtain ⟨g, e⟩ := x
 obtain ⟨⟨hx1, K, hK1, hK2, hw, hv⟩, hx3⟩ := hx
 (try simp only [] at hx1 hx3 hw hv)
 have hwl := hw.1
 have hvl := hv.1
 (try simp only [])
 refine q006.ref (q10p cs hc hl e hx3 g.w.length (by omega)) [1000000000] [] rfl Tryz.call37 (by simp) ?_ (by simp) ?_ (.inl rfl) ?_
 ·simp -implicitDefEqProofs only [sR', Nat.reduceEqDiff, ↓reduceIte]
 ·simp -implicitDefEqProofs only [aR', go_sem]
 simp -implicitDefEqProofs only [cR', go_sem]
 have hs1 := q10o (cs := cs) hl hx3 g.w.length
 have hb1 := q10n (cs := cs) (a := e) (n := g.w.length) (by omega)
 generalize q10m cs e g.w.length = z at hs1 hb1 ⊢
 obtain ⟨k, b⟩ := z
 simp only [] at hs1 hb1 ⊢
 obtain ⟨k, rfl⟩ : ∃ n : Nat, k = n := ⟨k.toNat, by omega⟩
 refine q006.ref (q10p cs hc hl b hs1 24 (by omega)) [1000000000] [] rfl Tryz.call37 (by simp) ?_ (by simp) ?_ (.inl rfl) ?_
 ·simp -implicitDefEqProofs only [sR', Nat.reduceEqDiff, ↓reduceIte]
 ·simp -implicitDefEqProofs only [aR', go_sem]
 simp -implicitDefEqProofs only [cR', go_sem, List.lookup_cons, beq_self_eq_true]
 have hs2 := q10o (cs := cs) hl hs1 24
 generalize q10m cs b 24 = z at hs2 ⊢
 obtain ⟨q, c⟩ := z
 simp only [] at hs2 ⊢
 obtain ⟨r0, hr0, hr0l⟩ := q10j hw (a := k) (by omega)
 obtain ⟨s0, hs0, hs0l⟩ := q10j hv (a := k) (by omega)
 have hsm := q0z2 (g := g) ⟨hx1, K, hK1, hK2, hw, hv⟩
 have hany : ((g.w.map intsO).set k T.any)[k]? = some .any := by rw [List.getElem?_set_self (by rw [List.length_map]; omega)]
 have hany2 : ((g.v.map intsO).set k T.any)[k]? = some .any := by rw [List.getElem?_set_self (by rw [List.length_map]; omega)]
 refine ⟨fun q0 => ?_, fun q0 => ⟨fun q1 => ?_, fun q1 => ⟨fun q2 => ?_, fun q2 => ⟨fun q3 => ?_, fun q3 => ?_⟩⟩⟩⟩
 ·refine ⟨_, Weak.open 9 k 502 (l := g.w.map intsO) (lk := []) (c := intsO r0) rfl (by rw [List.getElem?_map, hr0]; rfl) rfl (by decide) rfl, ?_⟩
  simp -implicitDefEqProofs only [eR', go_sem, List.lookup_cons, beq_self_eq_true, intsO, List.length_set]
  have hp := q117 cs hc hl c hs2 [-1, 0, 9, 10] (by simp) (by simp)
  simp only [intsO, List.map_cons, List.map_nil] at hp
  refine ⟨by omega, by omega, by omega, ?_⟩
  refine q002.ref hp [1000000000, 22] [] rfl Tryz.call45 (by simp) ?_ (by simp) (fun e R' hR => ?_) (.inl rfl) ?_
  ·simp -implicitDefEqProofs only [sR', Nat.reduceEqDiff, ↓reduceIte]
  ·simp -implicitDefEqProofs only [aR', go_sem]
  simp -implicitDefEqProofs only [cR', go_sem]
  have hs3 := q116 (cs := cs) hl hs2 [-1, 0, 9, 10]
  generalize q115 cs c [-1, 0, 9, 10] = z at hs3 ⊢
  obtain ⟨v, d⟩ := z
  simp only [] at hs3 ⊢
  have hrow : ((g.w.map intsO).set k T.any).set k (.arr 1 ((r0.map T.i).set 0 (.i v))) = (g.w.set k (r0.set 0 v)).map intsO := by
   rw [List.set_set, List.map_set, intsO, List.map_set]
  refine ⟨?_, ((q09v.refl _ _ _).upd _ (.inl (by simp))).upd _ (.inl (by simp))⟩
  refine ⟨by omega, by omega, _, Weak.trans (Weak.close1 9 k 502 rfl rfl (by decide) hany) (Weak.trans (Weak.close1 3 1 9 rfl rfl (by decide) rfl) (Weak.trans (Weak.share 3 rfl) (Weak.o [(0, .own 1000000000), (2, .own 2), (3, .t (.pin [nodes g.nd, rows (g.w.set k (r0.set 0 v)), rows g.v] 0))] [(1000000000, .box [bytes cs, .i d.1, .i d.2]), (2, .box [.v (.slice none 0 0), .v (.slice none 0 0), .v (.slice none 0 0)])] [some 1000000000, some 2] ?_ ?_))), ?_⟩
  ·simp -implicitDefEqProofs only [wR', Nat.reduceBEq, Nat.reduceEqDiff, ↓reduceIte, q0rg, T.toSh, T.toShL, q12g, q0vg, nodes, List.set_cons_succ, List.set_cons_zero, hrow]
  ·exact ⟨⟨_, rfl, .refl _⟩, rfl, ⟨_, rfl, .refl _⟩, rfl, trivial⟩
  simp -implicitDefEqProofs only [eR', go_sem, nodes]
  exact ⟨((⟨g.nd, g.w.set k (r0.set 0 v), g.v⟩, true), d), rfl, rfl, q0z2 ⟨hx1, K, hK1, hK2, q10k hw _ (by rw [List.length_set]; exact hr0l), hv⟩, hs3⟩
 ·refine ⟨_, Weak.trans (Weak.open 3 2 503 rfl rfl rfl (by decide) rfl) (Weak.open 503 k 504 (l := g.v.map intsO) (lk := []) (c := intsO s0) rfl (by rw [List.getElem?_map, hs0]; rfl) rfl (by decide) rfl), ?_⟩
  simp -implicitDefEqProofs only [eR', go_sem, List.lookup_cons, beq_self_eq_true, intsO, List.length_set]
  have hp := q117 cs hc hl c hs2 [-2, 2] (by simp) (by simp)
  simp only [intsO, List.map_cons, List.map_nil] at hp
  refine ⟨by omega, by omega, by omega, ?_⟩
  refine q002.ref hp [1000000000, 33] [] rfl Tryz.call45 (by simp) ?_ (by simp) (fun e R' hR => ?_) (.inl rfl) ?_
  ·simp -implicitDefEqProofs only [sR', Nat.reduceEqDiff, ↓reduceIte]
  ·simp -implicitDefEqProofs only [aR', go_sem]
  simp -implicitDefEqProofs only [cR', go_sem]
  have hs3 := q116 (cs := cs) hl hs2 [-2, 2]
  generalize q115 cs c [-2, 2] = z at hs3 ⊢
  obtain ⟨v, d⟩ := z
  simp only [] at hs3 ⊢
  have hrow : ((g.v.map intsO).set k T.any).set k (.arr 1 ((s0.map T.i).set 0 (.i v))) = (g.v.set k (s0.set 0 v)).map intsO := by
   rw [List.set_set, List.map_set, intsO, List.map_set]
  refine ⟨?_, ((q09v.refl _ _ _).upd _ (.inl (by simp))).upd _ (.inl (by simp))⟩
  refine ⟨by omega, by omega, _, Weak.trans (Weak.close1 503 k 504 rfl rfl (by decide) hany2) (Weak.trans (Weak.close 3 2 503 rfl rfl (by decide) rfl (by simp)) (Weak.trans (Weak.close1 3 1 9 rfl rfl (by decide) rfl) (Weak.trans (Weak.share 3 rfl) (Weak.o [(0, .own 1000000000), (2, .own 2), (3, .t (.pin [nodes g.nd, rows g.w, rows (g.v.set k (s0.set 0 v))] 0))] [(1000000000, .box [bytes cs, .i d.1, .i d.2]), (2, .box [.v (.slice none 0 0), .v (.slice none 0 0), .v (.slice none 0 0)])] [some 1000000000, some 2] ?_ ?_)))), ?_⟩
  ·simp -implicitDefEqProofs only [wR', Nat.reduceBEq, Nat.reduceEqDiff, ↓reduceIte, q0rg, T.toSh, T.toShL, q12g, q0vg, nodes, List.set_cons_succ, List.set_cons_zero, hrow]
  ·exact ⟨⟨_, rfl, .refl _⟩, rfl, ⟨_, rfl, .refl _⟩, rfl, trivial⟩
  simp -implicitDefEqProofs only [eR', go_sem, nodes]
  exact ⟨((⟨g.nd, g.w, g.v.set k (s0.set 0 v)⟩, true), d), rfl, rfl, q0z2 ⟨hx1, K, hK1, hK2, hw, q10k hv _ (by rw [List.length_set]; exact hs0l)⟩, hs3⟩
 ·refine ⟨_, Weak.trans (Weak.close1 3 1 9 rfl rfl (by decide) rfl) (Weak.trans (Weak.share 3 rfl) (Weak.o [(0, .own 1000000000), (2, .own 2), (3, .t (.pin [nodes g.nd, rows g.w, rows g.v] 0))] [(1000000000, .box [bytes cs, .i c.1, .i c.2]), (2, .box [.v (.slice none 0 0), .v (.slice none 0 0), .v (.slice none 0 0)])] [some 1000000000, some 2] ?_ ?_)), ?_⟩
  ·simp -implicitDefEqProofs only [wR', Nat.reduceBEq, Nat.reduceEqDiff, ↓reduceIte, q0rg, T.toSh, T.toShL, q12g, q0vg, nodes, List.set_cons_succ, List.set_cons_zero]
  ·exact ⟨⟨_, rfl, .refl _⟩, rfl, ⟨_, rfl, .refl _⟩, rfl, trivial⟩
  simp -implicitDefEqProofs only [eR', go_sem, nodes]
  refine ⟨by omega, by omega, ((⟨g.nd, g.w, g.v.drop 1⟩, true), c), rfl, ?_, ⟨hsm.1, hsm.2.1, hsm.2.2.1, by show (g.v.drop 1).length <= 4; rw [List.length_drop]; omega, fun r hr => hsm.2.2.2.2 r (List.mem_of_mem_drop hr)⟩, hs2⟩
  rw [List.take_of_length_le (by rw [List.length_drop, List.length_map]; omega), ← List.map_drop]; rfl
 ·refine ⟨_, Weak.trans (Weak.close1 3 1 9 rfl rfl (by decide) rfl) (Weak.trans (Weak.share 3 rfl) (Weak.o [(0, .own 1000000000), (2, .own 2), (3, .t (.pin [nodes g.nd, rows g.w, rows g.v] 0))] [(1000000000, .box [bytes cs, .i c.1, .i c.2]), (2, .box [.v (.slice none 0 0), .v (.slice none 0 0), .v (.slice none 0 0)])] [some 1000000000, some 2] ?_ ?_)), ?_⟩
  ·simp -implicitDefEqProofs only [wR', Nat.reduceBEq, Nat.reduceEqDiff, ↓reduceIte, q0rg, T.toSh, T.toShL, q12g, q0vg, nodes, List.set_cons_succ, List.set_cons_zero]
  ·exact ⟨⟨_, rfl, .refl _⟩, rfl, ⟨_, rfl, .refl _⟩, rfl, trivial⟩
  simp -implicitDefEqProofs only [eR', go_sem, nodes]
  obtain ⟨⟨⟨l2, bb⟩, d⟩, ⟨hy1, hy2⟩, hT⟩ := q122 cs hc hl c hs2
  (try simp only [] at hy1 hy2 hT)
  cases bb
  ·simp only [q0z4, Bool.false_eq_true, if_false] at hT
   refine q002.ref hT [1000000000] [] rfl Tryz.call83 (by simp) ?_ (by simp) (fun e R' hR => ?_) (.inl rfl) ?_
   ·simp -implicitDefEqProofs only [sR', Nat.reduceEqDiff, ↓reduceIte]
   ·simp -implicitDefEqProofs only [aR', go_sem]
   simp -implicitDefEqProofs only [cR', go_sem]
   exact ⟨⟨((⟨l2, g.w, g.v⟩, false), d), rfl, rfl, ⟨hy1, hsm.2⟩, hy2⟩, ((q09v.refl _ _ _).upd _ (.inl (by simp))).upd _ (.inr rfl)⟩
  ·simp only [q0z4, if_true, nodes] at hT
   refine q002.ref hT [1000000000] [] rfl Tryz.call83 (by simp) ?_ (by simp) (fun e R' hR => ?_) (.inl rfl) ?_
   ·simp -implicitDefEqProofs only [sR', Nat.reduceEqDiff, ↓reduceIte]
   ·simp -implicitDefEqProofs only [aR', go_sem]
   simp -implicitDefEqProofs only [cR', go_sem]
   exact ⟨⟨((⟨l2, g.w, g.v⟩, true), d), rfl, rfl, ⟨hy1, hsm.2⟩, hy2⟩, (q09v.refl _ _ _).upd _ (.inl (by simp))⟩
 ·refine ⟨_, Weak.trans (Weak.close1 3 1 9 rfl rfl (by decide) rfl) (Weak.trans (Weak.share 3 rfl) (Weak.o [(0, .own 1000000000), (2, .own 2), (3, .t (.pin [nodes g.nd, rows g.w, rows g.v] 0))] [(1000000000, .box [bytes cs, .i c.1, .i c.2]), (2, .box [.v (.slice none 0 0), .v (.slice none 0 0), .v (.slice none 0 0)])] [some 1000000000, some 2] ?_ ?_)), ?_⟩
  ·simp -implicitDefEqProofs only [wR', Nat.reduceBEq, Nat.reduceEqDiff, ↓reduceIte, q0rg, T.toSh, T.toShL, q12g, q0vg, nodes, List.set_cons_succ, List.set_cons_zero]
  ·exact ⟨⟨_, rfl, .refl _⟩, rfl, ⟨_, rfl, .refl _⟩, rfl, trivial⟩
  simp -implicitDefEqProofs only [eR', go_sem, nodes]
  exact ⟨((g, true), c), rfl, rfl, hsm, hs2⟩
end

theorem q0op {t : Int} {w : List Int} {i : Nat} {x : Int} (h : w[i]? = some x) : quoL t (w.take (i + 1)) = quoL t (w.take i) ++ [60 * x / t] := by rw [q0uj h]; simp [quoL]
theorem q0pf {t : Int} {w : List Int} {i : Nat} {x : Int} (h : w[i]? = some x) : remL t (w.take (i + 1)) = remL t (w.take i) ++ [60 * x % t] := by rw [q0uj h]; simp [remL]
def q0xj (w : List Int) : Prop := 1 <= w.length /\ w.length <= 4 /\ ∀ x ∈ w, 0 <= x /\ x <= 1000000000
theorem q0xk {w : List Int} (h : q0xj w) : q0rv w := ⟨by have := h.2.1; omega, fun x hx => by have := h.2.2 x hx; omega⟩
theorem q0oq {w : List Int} (h : q0xj w) (ht : 0 < w.sum) : q0rv (quoL w.sum w) := by
 refine ⟨by have := h.2.1; simp [quoL]; omega, fun y hy => ?_⟩
 obtain ⟨x, hx, rfl⟩ := List.mem_map.1 hy
 have hb := h.2.2 x hx
 have h1 := Int.ediv_nonneg (a := 60 * x) (b := w.sum) (by omega) (by omega)
 have h2 : 60 * x / w.sum <= 60 * x := Int.ediv_le_self _ (by omega)
 omega
theorem HamI.small {w : List Int} {t : Int} {m : Nat} {p r : List Int} (h : HamI w t m p r) (ht : 0 < t) {i : Nat} (hi : i < w.length) (hw : 0 <= w.getD i 0 /\ w.getD i 0 <= 1000000000) : 0 <= p.getD i 0 /\ p.getD i 0 <= 100000000000 := by
 have key : -t < t * p.getD i 0 /\ t * p.getD i 0 < 60 * w.getD i 0 + t := by
  rcases h.each i hi with h1 | h1 <;> omega
 refine ⟨?_, ?_⟩
 ·have h1 : t * (-1) < t * p.getD i 0 := by omega
  have := Int.lt_of_mul_lt_mul_left h1 (by omega)
  omega
 ·have h1 := Int.mul_le_mul_of_nonneg_right (show (1 : Int) <= t by omega) (show 0 <= 60 * w.getD i 0 by omega)
  have h2 : t * p.getD i 0 < t * (60 * w.getD i 0 + 1) := by rw [Int.mul_add, Int.mul_one]; omega
  have := Int.lt_of_mul_lt_mul_left h2 (by omega)
  omega
theorem q0sh (w : List Int) (hw : q0xj w) (ht : 0 < w.sum) : Fun Tryz.prog 70 [] [.t (ints w)] fun o r => o = [] /\ r = intsO (ham1 w) := by
 have hs := q0xk hw
 have hsum : w.sum <= 1000000000000000 := by have := q0rw hs w.length; rw [List.take_length] at this; omega
 obtain ⟨hw1, hw2, hw3⟩ := hw
 refine q0bw (by simp) ?_
 simp -implicitDefEqProofs only [eR', go_sem, q04y]
 refine q006.p (q0s7 w hs) [] rfl Tryz.call79 ?_ ?_
 ·simp -implicitDefEqProofs only [aR', go_sem]
 simp -implicitDefEqProofs only [eR', go_sem]
 refine ⟨fun h => absurd h (by simp; omega), fun _ => ?_⟩
 refine SemC.loopR (σ := Nat) (fun i => St.of [(0, .t (ints w)), (3, .t (.i w.sum)), (6, .own 95), (7, .own 96), (8, .t (.i i))] [(95, .arr 1 ((quoL w.sum (w.take i)).map T.i)), (96, .arr 1 ((remL w.sum (w.take i)).map T.i))]) (fun i => i <= w.length) (fun i => w.length - i) 0 (Weak.o _ _ [some 28, some 29] ?_ ?_) (by omega) fun i hi R hn hr he => ?_
 ·simp -implicitDefEqProofs only [wR', Nat.reduceBEq, Nat.reduceEqDiff, ↓reduceIte]
 ·exact ⟨⟨_, rfl, .refl _⟩, rfl, ⟨_, rfl, .refl _⟩, rfl, trivial⟩
 ·simp -implicitDefEqProofs only [eR', go_sem]
  refine ⟨fun h => ⟨by omega, by omega, by omega, fun x hx => ?_⟩, fun h => he _ _ ?_⟩
  ·have hxb := hw3 x (List.mem_of_getElem? hx)
   have hq1 := Int.ediv_nonneg (a := 60 * x) (b := w.sum) (by omega) (by omega)
   have hq2 : 60 * x / w.sum <= 60 * x := Int.ediv_le_self _ (by omega)
   have hr1 := Int.emod_nonneg (60 * x) (show w.sum ≠ 0 by omega)
   have hr2 := Int.emod_lt_of_pos (60 * x) ht
   have e1 : IntKind.i64.wrap ((IntKind.i64.wrap (60 * x)).tdiv w.sum) = 60 * x / w.sum := by
    rw [wrap64 (n := 60 * x) (by omega) (by omega), Int.tdiv_eq_ediv_of_nonneg (by omega), wrap64 (by omega) (by omega)]
   have e2 : (IntKind.i64.wrap (60 * x)).tmod w.sum = 60 * x % w.sum := by
    rw [wrap64 (n := 60 * x) (by omega) (by omega), Int.tmod_eq_emod_of_nonneg (by omega)]
   simp only [e1]
   refine ⟨by omega, by rw [quoL, List.length_map, List.length_take]; omega, by omega, by omega, by omega, fun x' hx' => ?_⟩
   rw [hx] at hx'; cases hx'
   simp only [e2]
   refine ⟨by omega, by rw [remL, List.length_map, List.length_take]; omega, ?_⟩
   refine hn _ (i + 1) (Weak.o _ _ [some 45, some 55] ?_ ?_) (by omega) (by omega)
   ·simp -implicitDefEqProofs only [wR', Nat.reduceBEq, Nat.reduceEqDiff, ↓reduceIte, q0lb (by omega : i < w.length) (by omega)]
   ·refine ⟨⟨_, rfl, ?_⟩, rfl, ⟨_, rfl, ?_⟩, rfl, trivial⟩
    ·rw [q0op hx, List.map_append]; exact .refl _
    ·rw [q0pf hx, List.map_append]; exact .refl _
  ·simp -implicitDefEqProofs only [eR', go_sem]
   rw [show i = w.length by omega, List.take_length]
   have hst := q0dq (fun x hx => (hw3 x hx).1) ht
   have hqs := q0oq ⟨hw1, hw2, hw3⟩ ht
   refine q006.p (q0s7 (quoL w.sum w) hqs) [95] rfl Tryz.call79 ?_ ?_
   ·simp -implicitDefEqProofs only [aR', go_sem]
   simp -implicitDefEqProofs only [eR', go_sem]
   have hsm := hst.sum
   have e60 : IntKind.i64.wrap (60 - (quoL w.sum w).sum) = (((60 - (quoL w.sum w).sum).toNat : Nat) : Int) := by
    have := q0rw hqs (quoL w.sum w).length
    rw [List.take_length] at this
    rw [wrap64 (by omega) (by omega)]; omega
   rw [e60]
   refine SemC.loopR (σ := Nat × List Int × List Int) (fun s => St.of [(6, .own 95), (7, .own 96), (9, .t (.i s.1))] [(95, .arr 1 (s.2.1.map T.i)), (96, .arr 1 (s.2.2.map T.i))]) (fun s => HamI w w.sum s.1 s.2.1 s.2.2 /\ q0dn s.1 s.2.1 s.2.2 = ham1 w /\ s.1 <= 60) (fun s => s.1) ((60 - (quoL w.sum w).sum).toNat, quoL w.sum w, remL w.sum w) (Weak.o _ _ [some 95, some 96] ?_ ?_) ⟨hst, rfl, by
    have := q0ub (w := quoL w.sum w) fun y hy => by
     obtain ⟨x, hx, rfl⟩ := List.mem_map.1 hy
     exact Int.ediv_nonneg (by have := hw3 x hx; omega) (by omega)
    simp only []; omega⟩ fun s hI R hn hr he => ?_
   ·simp -implicitDefEqProofs only [wR', Nat.reduceBEq, Nat.reduceEqDiff, ↓reduceIte]
   ·exact ⟨⟨_, rfl, .refl _⟩, rfl, ⟨_, rfl, .refl _⟩, rfl, trivial⟩
   ·obtain ⟨m, p, r⟩ := s
    obtain ⟨hH, hgo, hm60⟩ := hI
    (try simp only [] at hH hgo hm60)
    simp -implicitDefEqProofs only [eR', go_sem]
    have hlp := hH.lp
    have hlr := hH.lr
    refine ⟨fun h => ?_, fun h => he _ _ ?_⟩
    ·obtain ⟨m', rfl⟩ : ∃ m', m = m' + 1 := ⟨m - 1, by omega⟩
     obtain ⟨hb1, hb2⟩ := hH.best ht
     have hnext := hH.step ht
     refine SemC.loopR (σ := Nat) (fun k => St.of [(6, .own 95), (7, .own 96), (9, .t (.i (m' + 1 : Nat))), (10, .t (.i (maxI r k : Nat))), (11, .t (.i k))] [(95, .arr 1 (p.map T.i)), (96, .arr 1 (r.map T.i))]) (fun k => 1 <= k /\ k <= r.length) (fun k => r.length - k) 1 (Weak.o _ _ [some 95, some 96] ?_ ?_) ⟨by omega, by omega⟩ fun k hk R2 hn2 hr2 he2 => ?_
     ·simp -implicitDefEqProofs only [wR', Nat.reduceBEq, Nat.reduceEqDiff, ↓reduceIte, q0jz]
     ·exact ⟨⟨_, rfl, .refl _⟩, rfl, ⟨_, rfl, .refl _⟩, rfl, trivial⟩
     ·simp -implicitDefEqProofs only [eR', go_sem]
      refine ⟨fun h => ?_, fun h => he2 _ _ ?_⟩
      ·have hkl : k < r.length := by omega
       obtain ⟨x, hx⟩ : ∃ x, r[k]? = some x := ⟨_, List.getElem?_eq_getElem hkl⟩
       have hml := q0jx r k (by omega) (by omega)
       obtain ⟨y, hy⟩ : ∃ y, r[maxI r k]? = some y := ⟨_, List.getElem?_eq_getElem hml⟩
       have hms : maxI r (k + 1) = if y < x then k else maxI r k := by
        rw [maxI, List.getD_eq_getElem?_getD, List.getD_eq_getElem?_getD, hx, hy]; rfl
       refine ⟨by omega, by omega, by omega, fun x' hx' => ⟨by omega, by omega, by omega, fun y' hy' => ?_⟩⟩
       rw [hx] at hx'; cases hx'
       rw [hy] at hy'; cases hy'
       refine ⟨fun hc => ?_, fun hc => ?_⟩
       ·rw [if_pos (by omega)] at hms
        refine hn2 _ (k + 1) (Weak.o _ _ [some 95, some 96] ?_ ?_) ⟨by omega, by omega⟩ (by omega)
        ·simp -implicitDefEqProofs only [wR', Nat.reduceBEq, Nat.reduceEqDiff, ↓reduceIte, q0lb hkl (by omega), hms]
        ·exact ⟨⟨_, rfl, .refl _⟩, rfl, ⟨_, rfl, .refl _⟩, rfl, trivial⟩
       ·rw [if_neg (by omega)] at hms
        refine hn2 _ (k + 1) (Weak.o _ _ [some 95, some 96] ?_ ?_) ⟨by omega, by omega⟩ (by omega)
        ·simp -implicitDefEqProofs only [wR', Nat.reduceBEq, Nat.reduceEqDiff, ↓reduceIte, q0lb hkl (by omega), hms]
        ·exact ⟨⟨_, rfl, .refl _⟩, rfl, ⟨_, rfl, .refl _⟩, rfl, trivial⟩
      ·simp -implicitDefEqProofs only [eR', go_sem]
       have hk' : k = r.length := by omega
       subst hk'
       have hsm := hH.small ht hb1 (hw3 _ (by rw [List.getD_eq_getElem?_getD, List.getElem?_eq_getElem hb1]; exact List.getElem_mem _))
       refine ⟨by omega, by omega, by omega, fun a ha => ?_⟩
       have hg : p.getD (maxI r r.length) 0 = a := by rw [List.getD_eq_getElem?_getD, ha]; rfl
       rw [hg] at hsm hnext
       rw [wrap64 (n := a + 1) (by omega) (by omega)]
       refine ⟨by omega, by omega, by omega, by omega, by omega, by omega, ?_⟩
       refine hn _ (m', p.set (maxI r r.length) (a + 1), r.set (maxI r r.length) (-1)) (Weak.o _ _ [some 95, some 96] ?_ ?_) ⟨hnext, by rw [← hgo, q0dn, hg], by simp only []; omega⟩ (by simp only []; omega)
       ·have e : IntKind.i64.wrap (((m' + 1 : Nat) : Int) - 1) = (m' : Int) := by rw [wrap64 (by omega) (by omega)]; omega
        simp -implicitDefEqProofs only [wR', Nat.reduceBEq, Nat.reduceEqDiff, ↓reduceIte, e]
       ·refine ⟨⟨_, rfl, ?_⟩, rfl, ⟨_, rfl, ?_⟩, rfl, trivial⟩
        ·rw [List.map_set]; exact .refl _
        ·rw [List.map_set]; exact .refl _
    ·simp -implicitDefEqProofs only [eR', go_sem]
     have hm0 : m = 0 := by omega
     subst hm0
     rw [← hgo, q0dn]; rfl

theorem q0mc {w : List Int} (h : q0xj w) : q0xj (q0mb w) := ⟨by have := h.1; simpa [q0mb] using this, by have := h.2.1; simpa [q0mb] using this, fun x hx => by simp [q0mb] at hx; omega⟩
theorem q0md {w : List Int} {i : Nat} {x : Int} (h : w[i]? = some x) : q0mb (w.take (i + 1)) = q0mb (w.take i) ++ [1] := by rw [q0uj h]; simp [q0mb]
theorem q0si (w : List Int) (hw : q0xj w) : Fun Tryz.prog 70 [] [.t (ints w)] fun o r => o = [] /\ r = intsO (ham w) := by
 have hs := q0xk hw
 have hs0 := q0ub (w := w) fun x hx => (hw.2.2 x hx).1
 by_cases h0 : w.sum = 0
 ·rw [ham, if_pos h0]
  have ho := q0sh (q0mb w) (q0mc hw) (by rw [q0me]; have := hw.1; omega)
  obtain ⟨hw1, hw2, hw3⟩ := hw
  refine q0bw (by simp) ?_
  simp -implicitDefEqProofs only [eR', go_sem, q04y]
  refine q006.p (q0s7 w hs) [] rfl Tryz.call79 ?_ ?_
  ·simp -implicitDefEqProofs only [aR', go_sem]
  simp -implicitDefEqProofs only [eR', go_sem]
  refine ⟨fun _ => ?_, fun h => absurd h (by simp [h0])⟩
  refine SemC.loopR (σ := Nat) (fun i => St.of [(0, .t (ints w)), (4, .own 95), (5, .t (.i i))] [(95, .arr 1 ((q0mb (w.take i)).map T.i))]) (fun i => i <= w.length) (fun i => w.length - i) 0 (Weak.o _ _ [some 16] ?_ ?_) (by omega) fun i hi R hn hr he => ?_
  ·simp -implicitDefEqProofs only [wR', Nat.reduceBEq, Nat.reduceEqDiff, ↓reduceIte]
  ·exact ⟨⟨_, rfl, .refl _⟩, rfl, trivial⟩
  ·simp -implicitDefEqProofs only [eR', go_sem]
   refine ⟨fun h => ?_, fun h => he _ _ ?_⟩
   ·obtain ⟨x, hx⟩ : ∃ x, w[i]? = some x := ⟨_, List.getElem?_eq_getElem (by omega)⟩
    refine ⟨by rw [q0mb, List.length_map, List.length_take]; omega, hn _ (i + 1) (Weak.o _ _ [some 25] ?_ ?_) (by omega) (by omega)⟩
    ·simp -implicitDefEqProofs only [wR', Nat.reduceBEq, Nat.reduceEqDiff, ↓reduceIte, q0lb (by omega : i < w.length) (by omega)]
    ·refine ⟨⟨_, rfl, ?_⟩, rfl, trivial⟩
     rw [q0md hx, List.map_append]; exact .refl _
   ·simp -implicitDefEqProofs only [eR', go_sem]
    rw [show i = w.length by omega, List.take_length]
    refine q006.res ho [95] rfl Tryz.call70 ?_ (.inr (q0fh _)) ?_
    ·simp -implicitDefEqProofs only [aR', go_sem]
    simp -implicitDefEqProofs only [cR', go_sem]
 ·rw [ham, if_neg h0]
  exact q0sh w hw (by omega)
def q0rk (g : Gm) (pl : Int) : List Int := (List.range (sets g pl).length).map fun i => (q0rh g pl i : Int)
theorem q0rm (g : Gm) (pl : Int) : (q0rk g pl).length = (sets g pl).length := by simp [q0rk]
theorem q0rl {g : Gm} {pl : Int} {i : Nat} (h : i < (sets g pl).length) : (q0rk g pl)[i]? = some (q0rh g pl i : Int) := by simp [q0rk, h]
theorem q0rn {g : Gm} {pl : Int} {i : Nat} (h : i < (sets g pl).length) : (q0rk g pl).take (i + 1) = (q0rk g pl).take i ++ [(q0rh g pl i : Int)] := q0uj (q0rl h)
section
attribute [-go_sem] q0i5 q0id fldC lenC idxC q0ip q0lp
theorem q0sj (g : Gm) (pl : Int) (hl : g.nd.length <= 60) (hk : g.w.length <= 6) : Fun Tryz.prog 69 [] [.t (.agg [.sh 5 (chunk q0lu g.nd), .sh 1 (g.w.map ints), .sh 1 (g.v.map ints)]), .t (.i pl)] fun o r => o = [] /\ r = intsO (q0rk g pl) := by
 refine q0bx (by simp) ?_
 simp -implicitDefEqProofs only [eR', go_sem, q04z]
 have hsl := q0re g pl hl hk
 have hp := q0h9 g pl hl hk
 simp only [q0qa] at hp
 refine q006.res hp [] rfl Tryz.call59 ?_ (.inl rfl) ?_
 ·simp -implicitDefEqProofs only [aR', go_sem]
 simp -implicitDefEqProofs only [cR', go_sem]
 refine SemC.loopR (σ := Nat) (fun i => St.of [(2, .own 2), (5, .t (rows (sets g pl))), (6, .own 96), (7, .t (.i i))] [(2, .box [.sh 5 (chunk q0lu g.nd), .sh 1 (g.w.map ints), .sh 1 (g.v.map ints)]), (96, intsO ((q0rk g pl).take i))]) (fun i => i <= (sets g pl).length) (fun i => (sets g pl).length - i) 0 (Weak.trans (Weak.share 10 rfl) (Weak.o _ _ [some 2, some 11] ?_ ?_)) (by simp) fun i hi R hn hr he => ?_
 ·simp -implicitDefEqProofs only [wR', Nat.reduceBEq, Nat.reduceEqDiff, ↓reduceIte, q0rg, T.toSh, q0vg]
 ·exact ⟨⟨_, rfl, .refl _⟩, rfl, ⟨_, rfl, .refl _⟩, rfl, trivial⟩
 rcases Nat.lt_or_ge i (sets g pl).length with h9 | h9
 ·obtain ⟨n, c, x, hs, hx, hn1, hc1, hxp, hsz⟩ := q0qz h9
  have hlt : ((q0rk g pl).take i).length = i := by rw [List.length_take, q0rm]; omega
  simp -implicitDefEqProofs only [eR', go_sem, intsO, decide_eq_true (show (i : Int) < ((sets g pl).length : Int) by omega), hs, q0kz hx, Option.map_some, Option.getD_some]
  refine ⟨by omega, by omega, by omega, by omega, by rw [q0l0]; omega, by rw [q0l0]; omega, by omega, hn _ (i + 1) (Weak.o _ _ [some 2, some 33] ?_ ?_) (by omega) (by omega)⟩
  ·simp -implicitDefEqProofs only [wR', Nat.reduceBEq, Nat.reduceEqDiff, ↓reduceIte, q0lb h9 (by omega)]
  ·refine ⟨⟨_, rfl, .refl _⟩, rfl, ⟨_, rfl, ?_⟩, rfl, trivial⟩
   rw [q0rn h9, hsz, intsO, List.map_append]; exact .refl _
 ·simp -implicitDefEqProofs only [eR', go_sem, decide_eq_false (show ¬ (i : Int) < ((sets g pl).length : Int) by omega)]
  refine he _ _ ?_
  simp -implicitDefEqProofs only [eR', go_sem, intsO]
  rw [List.take_of_length_le (by rw [q0rm]; exact h9)]
theorem q0ri {g : Gm} (hg : q0fl g = true) {pl : Int} (hpl : pl = 0 ∨ pl = 1) {i : Nat} (h : i < (sets g pl).length) : 1 <= q0rh g pl i /\ q0rh g pl i <= 4 := by
 obtain ⟨n, c, x, hs, hx, hn1, hc1, hxp, hsz⟩ := q0qz h
 obtain ⟨p1, p2, p3, p4, p5⟩ := q0fn hg
 obtain ⟨t1, t2, t3, t4⟩ := q0g0 p1
 obtain ⟨-, -, -, -, f1, f2⟩ := q0ks (t2 _ _ hx)
 rw [hsz]
 exact ⟨(f1 (by omega)).2, f2⟩
theorem q24m {cs : List Int} {a : Nat × Int} {x : Int} (hx : 0 <= x /\ x < 9) : 0 <= (q115 cs a [0, 0, 1, 2, x]).1 /\ (q115 cs a [0, 0, 1, 2, x]).1 <= 8 := by
 have h := q1tf (cs := cs) (a := a) (l := [0, 0, 1, 2, x]) (by simp)
 simp only [List.mem_cons, List.not_mem_nil, or_false] at h
 omega
theorem q25a (cs : List Int) (hc : q161 cs) (hl : cs.length <= 100000000000) (a : Nat × Int) (ha : q0qx a) (g : Gm) (hg : q0fl g = true) (pl : Int) (hpl : pl = 0 ∨ pl = 1) :
  Fun Tryz.prog 36 [.box [bytes cs, .i a.1, .i a.2]] [.own 1000000000, .t (.agg [.sh 5 (chunk q0lu g.nd), .sh 1 (g.w.map ints), .sh 1 (g.v.map ints)]), .t (.i pl)] fun o r => ∃ x : List (List Int) × (Nat × Int), o = [.box [bytes cs, .i x.2.1, .i x.2.2]] /\ r = .agg [.i pl, .arr 1 (x.1.map intsO)] /\ (x.1.length <= 360 /\ (∀ r ∈ x.1, 1 <= r.length /\ r.length <= 4) /\ q0qx x.2) := by
 obtain ⟨p1, p2, p3, p4, p5⟩ := q0fn hg
 obtain ⟨t1, t2, t3, t4⟩ := q0g0 p1
 have hsl := q0re g pl t1.2 p2.2
 refine q23d (by simp) ?_
 simp -implicitDefEqProofs only [eR', go_sem, q21z]
 have hp := q0sj g pl t1.2 p2.2
 simp only [intsO] at hp
 refine q006.res hp [] rfl Tryz.call69 ?_ (.inl rfl) ?_
 ·simp -implicitDefEqProofs only [aR', go_sem]
 simp -implicitDefEqProofs only [cR', go_sem]
 refine SemC.loopR (σ := List (List Int) × (Nat × Int)) (fun s => St.of [(0, .own 1000000000), (2, .t (.i pl)), (6, .own 6), (7, .t (ints (q0rk g pl))), (8, .own 96), (9, .t (.i s.1.length))] [(1000000000, .box [bytes cs, .i s.2.1, .i s.2.2]), (6, .box [.i 0, .v (.slice none 0 0)]), (96, q0qa s.1)]) (fun s => q0qx s.2 /\ s.1.length <= (sets g pl).length /\ ∀ r ∈ s.1, 1 <= r.length /\ r.length <= 4) (fun s => (sets g pl).length - s.1.length) ([], a) (Weak.trans (Weak.share 14 rfl) (Weak.o _ _ [some 1000000000, some 6, some 15] ?_ ?_)) ⟨ha, by simp, by simp⟩ fun s hI R hn hr he => ?_
 ·simp -implicitDefEqProofs only [wR', Nat.reduceBEq, Nat.reduceEqDiff, ↓reduceIte, q0rg, T.toSh, q0vf, List.length_nil]
 ·exact ⟨⟨_, rfl, .refl _⟩, rfl, ⟨_, rfl, .refl _⟩, rfl, ⟨_, rfl, .refl _⟩, rfl, trivial⟩
 obtain ⟨m, b⟩ := s
 obtain ⟨i1, i2, i3⟩ := hI
 (try simp only [] at i1 i2 i3)
 rcases Nat.lt_or_ge m.length (sets g pl).length with h9 | h9
 ·obtain ⟨b1, b2⟩ := q0ri hg hpl h9
  simp -implicitDefEqProofs only [eR', go_sem, q0qa, q0rm, decide_eq_true (show (m.length : Int) < ((sets g pl).length : Int) by omega)]
  refine SemC.loopR (σ := List Int × (Nat × Int)) (fun s => St.of [(0, .own 1000000000), (2, .t (.i pl)), (6, .own 6), (7, .t (ints (q0rk g pl))), (8, .own 96), (9, .t (.i m.length)), (10, .own 97), (11, .t (.i s.1.length))] [(1000000000, .box [bytes cs, .i s.2.1, .i s.2.2]), (6, .box [.i 0, .v (.slice none 0 0)]), (96, q0qa m), (97, intsO s.1)]) (fun s => q0qx s.2 /\ s.1.length <= q0rh g pl m.length /\ ∀ x ∈ s.1, 0 <= x /\ x <= 8) (fun s => q0rh g pl m.length - s.1.length) ([], b) (Weak.o _ _ [some 1000000000, some 6, some 96, some 22] ?_ ?_) ⟨i1, by simp, by simp⟩ fun s hI R2 hn2 hr2 he2 => ?_
  ·simp -implicitDefEqProofs only [wR', Nat.reduceBEq, Nat.reduceEqDiff, ↓reduceIte, List.length_nil]
  ·exact ⟨⟨_, rfl, .refl _⟩, rfl, ⟨_, rfl, .refl _⟩, rfl, ⟨_, rfl, .refl _⟩, rfl, ⟨_, rfl, .refl _⟩, rfl, trivial⟩
  obtain ⟨w, c⟩ := s
  obtain ⟨j1, j2, j3⟩ := hI
  (try simp only [] at j1 j2 j3)
  rcases Nat.lt_or_ge w.length (q0rh g pl m.length) with h8 | h8
  ·simp -implicitDefEqProofs only [eR', go_sem, q0qa, intsO, q0rm, q0rl h9, decide_eq_true (show (w.length : Int) < (q0rh g pl m.length : Int) by omega)]
   refine ⟨by omega, by omega, by omega, ?_⟩
   refine q006.ref (q10p cs hc hl c j1 9 (by omega)) [1000000000] [] rfl Tryz.call37 (by simp) ?_ (by simp) ?_ (.inl rfl) ?_
   ·simp -implicitDefEqProofs only [sR', Nat.reduceEqDiff, ↓reduceIte]
   ·simp -implicitDefEqProofs only [aR', go_sem]
   simp -implicitDefEqProofs only [cR', go_sem]
   have hs5 := q10o (cs := cs) hl j1 9
   have hb5 := q10n (cs := cs) (a := c) (n := 9) (by omega)
   generalize q10m cs c 9 = z at hs5 hb5 ⊢
   obtain ⟨y, d⟩ := z
   simp only [] at hs5 hb5 ⊢
   have hq := q117 cs hc hl d hs5 [0, 0, 1, 2, y] (by simp) (by simp)
   simp only [intsO, List.map_cons, List.map_nil] at hq
   refine q006.ref hq [1000000000, 35] [] rfl Tryz.call45 (by simp) ?_ (by simp) ?_ (.inl rfl) ?_
   ·simp -implicitDefEqProofs only [sR', Nat.reduceEqDiff, ↓reduceIte]
   ·simp -implicitDefEqProofs only [aR', go_sem]
   simp -implicitDefEqProofs only [cR', go_sem]
   have hs6 := q116 (cs := cs) hl hs5 [0, 0, 1, 2, y]
   have hb6 := q24m (cs := cs) (a := d) hb5
   generalize q115 cs d [0, 0, 1, 2, y] = z at hs6 hb6 ⊢
   obtain ⟨v, f⟩ := z
   simp only [] at hs6 hb6 ⊢
   refine ⟨by omega, hn2 _ (w ++ [v], f) (Weak.o _ _ [some 1000000000, some 6, some 96, some 38] ?_ ?_) ⟨hs6, by simp; omega, fun x hx => ?_⟩ (by simp only [List.length_append, List.length_cons, List.length_nil]; omega)⟩
   ·simp -implicitDefEqProofs only [wR', Nat.reduceBEq, Nat.reduceEqDiff, ↓reduceIte, q0lb h8 (by omega), List.length_append, List.length_cons, List.length_nil]
   ·refine ⟨⟨_, rfl, .refl _⟩, rfl, ⟨_, rfl, .refl _⟩, rfl, ⟨_, rfl, .refl _⟩, rfl, ⟨_, rfl, ?_⟩, rfl, trivial⟩
    simp only [intsO, List.map_append, List.map_cons, List.map_nil]; exact .refl _
   ·rcases List.mem_append.1 hx with hx | hx
    ·exact j3 x hx
    ·simp at hx; rw [hx]; exact hb6
  ·simp -implicitDefEqProofs only [eR', go_sem, q0qa, intsO, q0rm, q0rl h9, decide_eq_false (show ¬ (w.length : Int) < (q0rh g pl m.length : Int) by omega)]
   refine ⟨by omega, by omega, by omega, he2 _ _ ?_⟩
   simp -implicitDefEqProofs only [eR', go_sem, q0qa, intsO]
   have hwo : q0xj w := ⟨by omega, by omega, fun x hx => by have := j3 x hx; omega⟩
   have hq := q0si w hwo
   simp only [ints, intsO] at hq
   refine q006.res hq [97] rfl Tryz.call70 ?_ (.inr (q0fh _)) ?_
   ·simp -implicitDefEqProofs only [aR', go_sem]
   simp -implicitDefEqProofs only [cR', go_sem]
   have hhl := (q0dp (fun x hx => (j3 x hx).1) (show 1 <= w.length by omega)).1
   refine ⟨by omega, hn _ (m ++ [ham w], c) (Weak.o _ _ [some 1000000000, some 6, some 43] ?_ ?_) ⟨j1, by simp; omega, fun r hr' => ?_⟩ (by simp only [List.length_append, List.length_cons, List.length_nil]; omega)⟩
   ·simp -implicitDefEqProofs only [wR', Nat.reduceBEq, Nat.reduceEqDiff, ↓reduceIte, q0lb h9 (by omega), List.length_append, List.length_cons, List.length_nil]
   ·refine ⟨⟨_, rfl, .refl _⟩, rfl, ⟨_, rfl, .refl _⟩, rfl, ⟨_, rfl, ?_⟩, rfl, trivial⟩
    simp only [q0qa, intsO, List.map_append, List.map_cons, List.map_nil]; exact .refl _
   ·rcases List.mem_append.1 hr' with hr' | hr'
    ·exact i3 r hr'
    ·simp at hr'; rw [hr', hhl]; omega
 ·simp -implicitDefEqProofs only [eR', go_sem, q0qa, q0rm, decide_eq_false (show ¬ (m.length : Int) < ((sets g pl).length : Int) by omega)]
  refine he _ _ ?_
  simp -implicitDefEqProofs only [eR', go_sem, q0qa]
  exact ⟨(m, b), rfl, rfl, by show m.length <= 360; omega, i3, i1⟩
end
def uniL (g : Gm) (pl : Int) : List (List Int) := (List.range (sets g pl).length).map fun i => ham (List.replicate (q0rh g pl i) 0)
theorem q188 (g : Gm) (pl : Int) : (uniL g pl).length = (sets g pl).length := by simp [uniL]
theorem q18a {g : Gm} {pl : Int} {i : Nat} (h : i < (sets g pl).length) : (uniL g pl).take (i + 1) = (uniL g pl).take i ++ [ham (List.replicate (q0rh g pl i) 0)] := q0uj (by simp [uniL, h])
theorem q18b {n : Nat} (h1 : 1 <= n) (h4 : n <= 4) : q0xj (List.replicate n 0) := ⟨by simpa using h1, by simpa using h4, fun x hx => by rw [List.eq_of_mem_replicate hx]; omega⟩
theorem q260 (m : List (List Int)) : T.toShL (m.map intsO ++ [.arr 1 [.i 60]]) = (m ++ [[60]]).map ints := by
 rw [show m.map intsO ++ [T.arr 1 [.i 60]] = (m ++ [[60]]).map intsO by rw [List.map_append]; rfl, q0vg]
theorem q12i {A C : Prop} (t : C) (h : C -> A) : A := h t
def q17x (m : List (List Int)) : Prop := m.length <= 400 /\ ∀ r ∈ m, r.length <= 4
theorem q189 {g : Gm} (hg : q0fl g = true) {pl : Int} (hpl : pl = 0 ∨ pl = 1) : q17x (uniL g pl) := by
 obtain ⟨p1, p2, p3, p4, p5⟩ := q0fn hg
 obtain ⟨t1, t2, t3, t4⟩ := q0g0 p1
 have hsl := q0re g pl t1.2 p2.2
 refine ⟨by rw [q188]; omega, fun r hr => ?_⟩
 obtain ⟨i, hi, rfl⟩ := List.mem_map.1 hr
 obtain ⟨b1, b2⟩ := q0ri hg hpl (List.mem_range.1 hi)
 rw [(q0dp (w := List.replicate (q0rh g pl i) 0) (fun x hx => by rw [List.eq_of_mem_replicate hx]; omega) (by simpa using b1)).1]
 simpa using b2
theorem q11r {g : Gm} (h : q11q g) : q0cf g := by
 obtain ⟨⟨h1, h2⟩, h3, h4, h5, h6⟩ := h
 exact ⟨by omega, fun x hx => by have := h2 x hx; omega, ⟨by omega, fun r hr => by have := h4 r hr; omega⟩, by omega, fun r hr => by have := h6 r hr; omega⟩
section
attribute [-go_sem] q0i5 q0id fldC lenC idxC q0ip q0lp
theorem q25b (g : Gm) (hg : q0fl g = true) (pl : Int) (hpl : pl = 0 ∨ pl = 1) : Fun Tryz.prog 38 [] [.t (.agg [.sh 5 (chunk q0lu g.nd), .sh 1 (g.w.map ints), .sh 1 (g.v.map ints)]), .t (.i pl)] fun o r => o = [] /\ r = .agg [.i pl, .arr 1 ((uniL g pl).map intsO)] := by
 obtain ⟨p1, p2, p3, p4, p5⟩ := q0fn hg
 obtain ⟨t1, t2, t3, t4⟩ := q0g0 p1
 have hsl := q0re g pl t1.2 p2.2
 refine q23e (by simp) ?_
 simp -implicitDefEqProofs only [eR', go_sem, q220]
 have hp := q0sj g pl t1.2 p2.2
 simp only [intsO] at hp
 refine q006.res hp [] rfl Tryz.call69 ?_ (.inl rfl) ?_
 ·simp -implicitDefEqProofs only [aR', go_sem]
 simp -implicitDefEqProofs only [cR', go_sem]
 refine SemC.loopR (σ := Nat) (fun i => St.of [(1, .t (.i pl)), (4, .own 4), (5, .t (ints (q0rk g pl))), (6, .own 96), (7, .t (.i i))] [(4, .box [.i 0, .v (.slice none 0 0)]), (96, q0qa ((uniL g pl).take i))]) (fun i => i <= (sets g pl).length) (fun i => (sets g pl).length - i) 0 (Weak.trans (Weak.share 10 rfl) (Weak.o _ _ [some 4, some 11] ?_ ?_)) (by simp) fun i hi R hn hr he => ?_
 ·simp -implicitDefEqProofs only [wR', Nat.reduceBEq, Nat.reduceEqDiff, ↓reduceIte, q0rg, T.toSh, q0vf]
 ·exact ⟨⟨_, rfl, .refl _⟩, rfl, ⟨_, rfl, .refl _⟩, rfl, trivial⟩
 rcases Nat.lt_or_ge i (sets g pl).length with h9 | h9
 ·obtain ⟨b1, b2⟩ := q0ri hg hpl h9
  have hlt : ((uniL g pl).take i).length = i := by rw [List.length_take, q188]; omega
  simp -implicitDefEqProofs only [eR', go_sem, q0qa, q0rm, q0rl h9, decide_eq_true (show (i : Int) < ((sets g pl).length : Int) by omega), q0jc]
  refine ⟨by omega, by omega, by omega, by omega, by omega, ?_⟩
  rw [show List.replicate (q0rh g pl i) (T.v (.int .i64 0)) = (List.replicate (q0rh g pl i) 0).map T.i by rw [List.map_replicate]]
  have hq := q0si _ (q18b b1 b2)
  simp only [ints, intsO] at hq
  refine q006.res hq [23] rfl Tryz.call70 ?_ (.inr (q0fh _)) ?_
  ·simp -implicitDefEqProofs only [aR', go_sem]
  simp -implicitDefEqProofs only [cR', go_sem]
  refine ⟨by omega, hn _ (i + 1) (Weak.o _ _ [some 4, some 26] ?_ ?_) (by omega) (by omega)⟩
  ·simp -implicitDefEqProofs only [wR', Nat.reduceBEq, Nat.reduceEqDiff, ↓reduceIte, q0lb h9 (by omega)]
  ·refine ⟨⟨_, rfl, .refl _⟩, rfl, ⟨_, rfl, ?_⟩, rfl, trivial⟩
   rw [q18a h9, q0qa, List.map_append]; exact .refl _
 ·simp -implicitDefEqProofs only [eR', go_sem, q0rm, decide_eq_false (show ¬ (i : Int) < ((sets g pl).length : Int) by omega)]
  refine he _ _ ?_
  simp -implicitDefEqProofs only [eR', go_sem, q0qa]
  rw [List.take_of_length_le (by rw [q188]; exact h9)]
def dr2T (x : Gm × (Int × List (List Int))) : T := .tup [.agg [.sh 5 (chunk q0lu x.1.nd), .sh 1 (x.1.w.map ints), .sh 1 (x.1.v.map ints)], .agg [.i x.2.1, .sh 1 (x.2.2.map ints)]]
theorem q259 (cs : List Int) (hc : q161 cs) (hl : cs.length <= 100000000000) (a : Nat × Int) (ha : q0qx a) (pl : Int) (hpl : pl = 0 ∨ pl = 1) : Fun Tryz.prog 34 [.box [bytes cs, .i a.1, .i a.2]] [.own 1000000000, .t (.i pl)] fun o r => ∃ x : (Gm × (Int × List (List Int))) × (Nat × Int), o = [.box [bytes cs, .i x.2.1, .i x.2.2]] /\ r = dr2T x.1 /\ (q11q x.1.1 /\ q17x x.1.2.2 /\ q0qx x.2) := by
 refine Fun.le (Q := fun o r => ∃ x : (Gm × (Int × List (List Int))) × (Nat × Int), o = [.box [bytes cs, .i x.2.1, .i x.2.2]] /\ (r = dr2T x.1 ∨ x.1.2.2 = [] /\ r = .tup [.agg [.sh 5 (chunk q0lu x.1.1.nd), .sh 1 (x.1.1.w.map ints), .sh 1 (x.1.1.v.map ints)], .agg [.i x.1.2.1, .v (.slice none 0 0)]]) /\ (q11q x.1.1 /\ q17x x.1.2.2 /\ q0qx x.2)) ?_ ?_
 rotate_left
 ·rintro o r ⟨x, rfl, rfl | ⟨e, rfl⟩, hx⟩
  ·exact ⟨_, .refl _, x, rfl, rfl, hx⟩
  ·refine ⟨dr2T x.1, ?_, x, rfl, rfl, hx⟩
   rw [dr2T, e]
   refine .tup rfl fun i h h' => ?_
   match i, h with
   | 0, _ => exact .refl _
   | 1, _ =>
     refine .agg rfl fun j g g' => ?_
     match j, g with
     | 0, _ => exact .refl _
     | 1, _ => exact .nilSh 1
 refine q23c (by simp) ?_
 simp -implicitDefEqProofs only [eR', go_sem, q21y]
 have hp := q128 cs hc hl a ha
 simp only [q0z3] at hp
 refine q006.exi hp [1000000000] [] rfl Tryz.call65 (by simp) ?_ (by simp) ?_ (.inl rfl) (fun x hx => ?_)
 ·simp -implicitDefEqProofs only [sR', Nat.reduceEqDiff, ↓reduceIte]
 ·simp -implicitDefEqProofs only [aR', go_sem]
 obtain ⟨⟨g, bb⟩, d⟩ := x
 obtain ⟨hx1, hx2⟩ := hx
 simp only [] at hx1 hx2 ⊢
 apply q12i
 rotate_left
 ·intro tail
  cases bb
  ·simp only [Bool.false_eq_true, if_false, rows, nodes]
   simp -implicitDefEqProofs only [cR', go_sem, opR, Nat.reduceBEq]
   refine ⟨St.of [(0, .own 1000000000), (1, .t (.i pl)), (4, .own 4), (5, .own 5), (6, .t (.pin [nodes g.nd, rows g.w, rows g.v] 0))] [(1000000000, .box [bytes cs, .i d.1, .i d.2]), (4, .box [.v (.slice none 0 0), .v (.slice none 0 0), .v (.slice none 0 0)]), (5, .box [.i 0, .v (.slice none 0 0)])], Weak.trans (Weak.share 6 rfl) (Weak.o _ _ [some 1000000000, some 4, some 5] ?_ ?_), tail⟩
   ·simp -implicitDefEqProofs only [wR', Nat.reduceBEq, Nat.reduceEqDiff, ↓reduceIte, q0rg, T.toSh, T.toShL, nodes, q12h]
   ·exact ⟨⟨_, rfl, .refl _⟩, rfl, ⟨_, rfl, .refl _⟩, rfl, ⟨_, rfl, .refl _⟩, rfl, trivial⟩
  ·simp only [if_true, rows, nodes]
   simp -implicitDefEqProofs only [cR', go_sem, opR, Nat.reduceBEq]
   refine ⟨St.of [(0, .own 1000000000), (1, .t (.i pl)), (4, .own 4), (5, .own 5), (6, .t (.pin [nodes g.nd, rows g.w, rows g.v] 0))] [(1000000000, .box [bytes cs, .i d.1, .i d.2]), (4, .box [.v (.slice none 0 0), .v (.slice none 0 0), .v (.slice none 0 0)]), (5, .box [.i 0, .v (.slice none 0 0)])], Weak.trans (Weak.share 6 rfl) (Weak.o _ _ [some 1000000000, some 4, some 5] ?_ ?_), tail⟩
   ·simp -implicitDefEqProofs only [wR', Nat.reduceBEq, Nat.reduceEqDiff, ↓reduceIte, q0rg, T.toSh, T.toShL, nodes, q12h]
   ·exact ⟨⟨_, rfl, .refl _⟩, rfl, ⟨_, rfl, .refl _⟩, rfl, ⟨_, rfl, .refl _⟩, rfl, trivial⟩
 ·simp -implicitDefEqProofs only [eR', go_sem, nodes]
  have hgl : q0cf g := q11r hx1
  refine q006.p (q0fq (q0s2 g hgl)) [] rfl Tryz.call35 ?_ ?_
  ·simp -implicitDefEqProofs only [aR', go_sem]
  simp -implicitDefEqProofs only [eR', go_sem]
  cases hgb : q0fl g with
  | false => exact ⟨fun _ => ⟨((g, (pl, [])), d), rfl, .inr ⟨rfl, rfl⟩, hx1, ⟨by simp, by simp⟩, hx2⟩, fun h => absurd h (by decide)⟩
  | true =>
    refine ⟨fun h => absurd h (by decide), fun _ => ?_⟩
    have hr := q25a cs hc hl d hx2 g hgb pl hpl
    refine q006.exi hr [1000000000] [] rfl Tryz.call36 (by simp) ?_ (by simp) ?_ (.inl rfl) (fun y hy => ?_)
    ·simp -implicitDefEqProofs only [sR', Nat.reduceEqDiff, ↓reduceIte]
    ·simp -implicitDefEqProofs only [aR', go_sem]
    obtain ⟨m, e⟩ := y
    obtain ⟨hy1, hy2, hy3⟩ := hy
    (try simp only [] at hy1 hy2 hy3)
    (try simp only [])
    simp -implicitDefEqProofs only [cR', go_sem]
    refine q006.ref (q10p cs hc hl e hy3 20 (by omega)) [1000000000] [] rfl Tryz.call37 (by simp) ?_ (by simp) ?_ (.inl rfl) ?_
    ·simp -implicitDefEqProofs only [sR', Nat.reduceEqDiff, ↓reduceIte]
    ·simp -implicitDefEqProofs only [aR', go_sem]
    simp -implicitDefEqProofs only [cR', go_sem]
    have hs1 := q10o (cs := cs) hl hy3 20
    have hb1 := q10n (cs := cs) (a := e) (n := 20) (by omega)
    generalize q10m cs e 20 = z at hs1 hb1 ⊢
    obtain ⟨k, f⟩ := z
    simp only [] at hs1 hb1 ⊢
    refine ⟨fun hk => ?_, fun hk => ⟨fun hk1 => ?_, fun hk1 => ⟨fun hk2 => ?_, fun hk2 => ?_⟩⟩⟩
    ·refine ⟨fun hm => ?_, fun hm => ?_⟩
     ·obtain ⟨r0, hr0⟩ : ∃ r0, m[0]? = some r0 := ⟨_, List.getElem?_eq_getElem (by omega)⟩
      refine ⟨_, Weak.open 25 0 505 (l := m.map intsO) (lk := []) (c := intsO r0) rfl (by rw [List.getElem?_map, hr0]; rfl) rfl (by decide) rfl, ?_⟩
      have hr0m := hy2 r0 (List.mem_of_getElem? hr0)
      obtain ⟨y0, hy0⟩ : ∃ y, r0[0]? = some y := ⟨_, List.getElem?_eq_getElem (by omega)⟩
      simp -implicitDefEqProofs only [eR', go_sem, List.lookup_cons, beq_self_eq_true, intsO, List.length_set, hy0]
      have hp1 := q117 cs hc hl f hs1 [-1, 1, 60] (by simp) (by simp)
      simp only [intsO, List.map_cons, List.map_nil] at hp1
      refine ⟨by omega, by omega, by omega, by omega, by omega, by omega, ?_⟩
      refine q002.ref hp1 [1000000000, 39] [] rfl Tryz.call45 (by simp) ?_ (by simp) (fun e R' hR => ?_) (.inl rfl) ?_
      ·simp -implicitDefEqProofs only [sR', Nat.reduceEqDiff, ↓reduceIte]
      ·simp -implicitDefEqProofs only [aR', go_sem]
      simp -implicitDefEqProofs only [cR', go_sem]
      have hs2 := q116 (cs := cs) hl hs1 [-1, 1, 60]
      generalize q115 cs f [-1, 1, 60] = z at hs2 ⊢
      obtain ⟨v, f2⟩ := z
      (try simp only [] at hs2)
      (try simp only [])
      have hany : ((m.map intsO).set 0 T.any)[0]? = some .any := by rw [List.getElem?_set_self (by rw [List.length_map]; omega)]
      have hrow : ((m.map intsO).set 0 T.any).set 0 (.arr 1 ((r0.map T.i).set 0 (.i (IntKind.i64.wrap (y0 + v))))) = (m.set 0 (r0.set 0 (IntKind.i64.wrap (y0 + v)))).map intsO := by
       rw [List.set_set, List.map_set, intsO, List.map_set]
      refine ⟨?_, ((q09v.refl _ _ _).upd _ (.inl (by simp))).upd _ (.inl (by simp))⟩
      refine ⟨by omega, by omega, _, Weak.trans (Weak.close1 25 0 505 rfl rfl (by decide) hany) (Weak.trans (Weak.close1 7 1 25 rfl rfl (by decide) rfl) (Weak.trans (Weak.share 7 rfl) (Weak.o [(0, .own 1000000000), (1, .t (.i pl)), (4, .own 4), (5, .own 5), (6, .t (.pin [nodes g.nd, rows g.w, rows g.v] 0)), (7, .t (.pin [.i pl, rows (m.set 0 (r0.set 0 (IntKind.i64.wrap (y0 + v))))] 0))] [(1000000000, .box [bytes cs, .i f2.1, .i f2.2]), (4, .box [.v (.slice none 0 0), .v (.slice none 0 0), .v (.slice none 0 0)]), (5, .box [.i 0, .v (.slice none 0 0)])] [some 1000000000, some 4, some 5] ?_ ?_))), ?_⟩
      ·simp -implicitDefEqProofs only [wR', Nat.reduceBEq, Nat.reduceEqDiff, ↓reduceIte, q0rg, T.toSh, T.toShL, nodes, q0vg, List.set_cons_succ, List.set_cons_zero, hrow]
      ·exact ⟨⟨_, rfl, .refl _⟩, rfl, ⟨_, rfl, .refl _⟩, rfl, ⟨_, rfl, .refl _⟩, rfl, trivial⟩
      simp -implicitDefEqProofs only [eR', go_sem, nodes]
      exact ⟨⟨((g, (pl, m.set 0 (r0.set 0 (IntKind.i64.wrap (y0 + v))))), f2), rfl, .inl rfl, hx1, ⟨by show (m.set 0 _).length <= 400; rw [List.length_set]; omega, fun r hr => by rcases List.mem_or_eq_of_mem_set hr with h | h; exact (hy2 r h).2; rw [h, List.length_set]; omega⟩, hs2⟩, (q09v.refl _ _ _).upd _ (.inl (by simp))⟩
     ·refine ⟨_, Weak.trans (Weak.close1 7 1 25 rfl rfl (by decide) rfl) (Weak.trans (Weak.share 7 rfl) (Weak.o [(0, .own 1000000000), (1, .t (.i pl)), (4, .own 4), (5, .own 5), (6, .t (.pin [nodes g.nd, rows g.w, rows g.v] 0)), (7, .t (.pin [.i pl, rows m] 0))] [(1000000000, .box [bytes cs, .i f.1, .i f.2]), (4, .box [.v (.slice none 0 0), .v (.slice none 0 0), .v (.slice none 0 0)]), (5, .box [.i 0, .v (.slice none 0 0)])] [some 1000000000, some 4, some 5] ?_ ?_)), ?_⟩
      ·simp -implicitDefEqProofs only [wR', Nat.reduceBEq, Nat.reduceEqDiff, ↓reduceIte, q0rg, T.toSh, T.toShL, nodes, q0vg, List.set_cons_succ, List.set_cons_zero]
      ·exact ⟨⟨_, rfl, .refl _⟩, rfl, ⟨_, rfl, .refl _⟩, rfl, ⟨_, rfl, .refl _⟩, rfl, trivial⟩
      simp -implicitDefEqProofs only [eR', go_sem, nodes]
      exact ⟨⟨((g, (pl, m)), f), rfl, .inl rfl, hx1, ⟨by show m.length <= 400; omega, fun r hr => (hy2 r hr).2⟩, hs1⟩, (q09v.refl _ _ _).upd _ (.inl (by simp))⟩
    ·have hp1 := q117 cs hc hl f hs1 [-1, IntKind.i64.wrap (1 - pl), 2] (by simp) (by simp)
     simp only [intsO, List.map_cons, List.map_nil] at hp1
     refine q006.ref hp1 [1000000000, 48] [] rfl Tryz.call45 (by simp) ?_ (by simp) ?_ (.inl rfl) ?_
     ·simp -implicitDefEqProofs only [sR', Nat.reduceEqDiff, ↓reduceIte]
     ·simp -implicitDefEqProofs only [aR', go_sem]
     simp -implicitDefEqProofs only [cR', go_sem]
     have hs2 := q116 (cs := cs) hl hs1 [-1, IntKind.i64.wrap (1 - pl), 2]
     generalize q115 cs f [-1, IntKind.i64.wrap (1 - pl), 2] = z at hs2 ⊢
     obtain ⟨v, f2⟩ := z
     (try simp only [] at hs2)
     (try simp only [])
     refine ⟨_, Weak.trans (Weak.share 7 rfl) (Weak.o [(0, .own 1000000000), (1, .t (.i pl)), (4, .own 4), (5, .own 5), (6, .t (.pin [nodes g.nd, rows g.w, rows g.v] 0)), (7, .t (.pin [.i v, rows m] 0))] [(1000000000, .box [bytes cs, .i f2.1, .i f2.2]), (4, .box [.v (.slice none 0 0), .v (.slice none 0 0), .v (.slice none 0 0)]), (5, .box [.i 0, .v (.slice none 0 0)])] [some 1000000000, some 4, some 5] ?_ ?_), ?_⟩
     ·simp -implicitDefEqProofs only [wR', Nat.reduceBEq, Nat.reduceEqDiff, ↓reduceIte, q0rg, T.toSh, T.toShL, nodes, q0vg]
     ·exact ⟨⟨_, rfl, .refl _⟩, rfl, ⟨_, rfl, .refl _⟩, rfl, ⟨_, rfl, .refl _⟩, rfl, trivial⟩
     simp -implicitDefEqProofs only [eR', go_sem, nodes]
     exact ⟨⟨((g, (v, m)), f2), rfl, .inl rfl, hx1, ⟨by show m.length <= 400; omega, fun r hr => (hy2 r hr).2⟩, hs2⟩, (q09v.refl _ _ _).upd _ (.inl (by simp))⟩
    ·refine ⟨by omega, _, Weak.trans (Weak.share 7 rfl) (Weak.o [(0, .own 1000000000), (1, .t (.i pl)), (4, .own 4), (5, .own 5), (6, .t (.pin [nodes g.nd, rows g.w, rows g.v] 0)), (7, .t (.pin [.i pl, rows (m ++ [[60]])] 0))] [(1000000000, .box [bytes cs, .i f.1, .i f.2]), (4, .box [.v (.slice none 0 0), .v (.slice none 0 0), .v (.slice none 0 0)]), (5, .box [.i 0, .v (.slice none 0 0)])] [some 1000000000, some 4, some 5] ?_ ?_), ?_⟩
     ·simp -implicitDefEqProofs only [wR', Nat.reduceBEq, Nat.reduceEqDiff, ↓reduceIte, q0rg, T.toSh, T.toShL, nodes, q260]
     ·exact ⟨⟨_, rfl, .refl _⟩, rfl, ⟨_, rfl, .refl _⟩, rfl, ⟨_, rfl, .refl _⟩, rfl, trivial⟩
     simp -implicitDefEqProofs only [eR', go_sem, nodes]
     exact ⟨⟨((g, (pl, m ++ [[60]])), f), rfl, .inl rfl, hx1, ⟨by show (m ++ [[60]]).length <= 400; simp; omega, fun r hr => by rcases List.mem_append.1 hr with h | h; exact (hy2 r h).2; simp at h; subst h; decide⟩, hs1⟩, (q09v.refl _ _ _).upd _ (.inl (by simp))⟩
    ·refine ⟨_, Weak.trans (Weak.share 7 rfl) (Weak.o [(0, .own 1000000000), (1, .t (.i pl)), (4, .own 4), (5, .own 5), (6, .t (.pin [nodes g.nd, rows g.w, rows g.v] 0)), (7, .t (.pin [.i pl, rows m] 0))] [(1000000000, .box [bytes cs, .i f.1, .i f.2]), (4, .box [.v (.slice none 0 0), .v (.slice none 0 0), .v (.slice none 0 0)]), (5, .box [.i 0, .v (.slice none 0 0)])] [some 1000000000, some 4, some 5] ?_ ?_), ?_⟩
     ·simp -implicitDefEqProofs only [wR', Nat.reduceBEq, Nat.reduceEqDiff, ↓reduceIte, q0rg, T.toSh, T.toShL, nodes, q0vg]
     ·exact ⟨⟨_, rfl, .refl _⟩, rfl, ⟨_, rfl, .refl _⟩, rfl, ⟨_, rfl, .refl _⟩, rfl, trivial⟩
     simp -implicitDefEqProofs only [eR', go_sem, nodes]
     exact ⟨⟨((g, (pl, m)), f), rfl, .inl rfl, hx1, ⟨by show m.length <= 400; omega, fun r hr => (hy2 r hr).2⟩, hs1⟩, (q09v.refl _ _ _).upd _ (.inl (by simp))⟩
end
end Go.Ab

/- Games as data: what the laws of best responses, bounds and claims say. -/
namespace Go.Ab

theorem q245 {g : Gm} {s t : Int × List (List Int)} (h : q0nn g s t = true) : prB g ⟨s, t, -q01x g s, q01x g t⟩ = true /\ prB g ⟨s, t, -q01x g s + 1, q01x g t⟩ = false /\ prB g ⟨s, t, -q01x g s, q01x g t - 1⟩ = false := by
 obtain ⟨h1, h2, _, _⟩ := q0np h
 have b1 := q01y h1
 have b2 := q01y h2
 refine ⟨q24o.2 ⟨h, by show _ <= -q01x g s; omega, by show -q01x g s <= -q01x g s; omega, by show q01x g t <= q01x g t; omega, by show q01x g t <= _; omega⟩, q24p fun k => ?_, q24p fun k => ?_⟩
 ·have := k.2.2.1
  have : -q01x g s + 1 <= -q01x g s := this
  omega
 ·have := k.2.2.2.1
  have : q01x g t <= q01x g t - 1 := this
  omega
end Go.Ab

/- Contracts: drawn games with strategies of both players. -/
namespace Go.Ab
open Go.Proofs
section
attribute [-go_sem] q0i5 q0id fldC lenC idxC q0ip q0lp
def dr3T (x : Gm × (Int × List (List Int)) × (Int × List (List Int))) : T := .tup [.agg [.sh 5 (chunk q0lu x.1.nd), .sh 1 (x.1.w.map ints), .sh 1 (x.1.v.map ints)], .agg [.i x.2.1.1, .sh 1 (x.2.1.2.map ints)], .agg [.i x.2.2.1, .sh 1 (x.2.2.2.map ints)]]
def okD3 (x : Gm × (Int × List (List Int)) × (Int × List (List Int))) : Prop := q11q x.1 /\ q17x x.2.1.2 /\ q17x x.2.2.2
theorem q25c (cs : List Int) (hc : q161 cs) (hl : cs.length <= 100000000000) (a : Nat × Int) (ha : q0qx a) : Fun Tryz.prog 15 [.box [bytes cs, .i a.1, .i a.2]] [.own 1000000000] fun o r => ∃ x : (Gm × (Int × List (List Int)) × (Int × List (List Int))) × (Nat × Int), o = [.box [bytes cs, .i x.2.1, .i x.2.2]] /\ r = dr3T x.1 /\ (okD3 x.1 /\ q0qx x.2) := by
 refine Fun.le (Q := fun o r => ∃ x : (Gm × (Int × List (List Int)) × (Int × List (List Int))) × (Nat × Int), o = [.box [bytes cs, .i x.2.1, .i x.2.2]] /\ (r = dr3T x.1 ∨ x.1.2.2.2 = [] /\ r = .tup [.agg [.sh 5 (chunk q0lu x.1.1.nd), .sh 1 (x.1.1.w.map ints), .sh 1 (x.1.1.v.map ints)], .agg [.i x.1.2.1.1, .sh 1 (x.1.2.1.2.map ints)], .agg [.i x.1.2.2.1, .v (.slice none 0 0)]]) /\ (okD3 x.1 /\ q0qx x.2)) ?_ ?_
 rotate_left
 ·rintro o r ⟨x, rfl, rfl | ⟨e, rfl⟩, hx⟩
  ·exact ⟨_, .refl _, x, rfl, rfl, hx⟩
  ·refine ⟨dr3T x.1, ?_, x, rfl, rfl, hx⟩
   rw [dr3T, e]
   refine .tup rfl fun i h h' => ?_
   match i, h with
   | 0, _ => exact .refl _
   | 1, _ => exact .refl _
   | 2, _ =>
     refine .agg rfl fun j g g' => ?_
     match j, g with
     | 0, _ => exact .refl _
     | 1, _ => exact .nilSh 1
 refine q23f (by simp) ?_
 simp -implicitDefEqProofs only [eR', go_sem, q221]
 have hp := q259 cs hc hl a ha 0 (.inl rfl)
 simp only [dr2T] at hp
 refine q006.exi hp [1000000000] [] rfl Tryz.call34 (by simp) ?_ (by simp) ?_ (.inl rfl) (fun x hx => ?_)
 ·simp -implicitDefEqProofs only [sR', Nat.reduceEqDiff, ↓reduceIte]
 ·simp -implicitDefEqProofs only [aR', go_sem]
 simp -implicitDefEqProofs only [cR', go_sem, opR, Nat.reduceBEq]
 obtain ⟨⟨g, ⟨p, m⟩⟩, d⟩ := x
 obtain ⟨hx1, hx2, hx3⟩ := hx
 (try simp only [] at hx1 hx2 hx3)
 (try simp only [])
 have hgl : q0cf g := q11r hx1
 refine q006.p (q0fq (q0s2 g hgl)) [] rfl Tryz.call35 ?_ ?_
 ·simp -implicitDefEqProofs only [aR', go_sem]
 simp -implicitDefEqProofs only [eR', go_sem]
 cases hgb : q0fl g with
 | false =>
   refine ⟨fun _ => ⟨_, Weak.refl _ _, ?_⟩, fun h => absurd h (by decide)⟩
   simp -implicitDefEqProofs only [eR', go_sem]
   exact ⟨⟨⟨((g, (p, m), (1, [])), d), rfl, .inr ⟨rfl, rfl⟩, ⟨hx1, hx2, ⟨by simp, by simp⟩⟩, hx3⟩, (q09v.refl _ _ _).upd _ (.inl (by simp))⟩, (q09v.refl _ _ _).upd _ (.inl (by simp))⟩
 | true =>
   refine ⟨fun h => absurd h (by decide), fun _ => ?_⟩
   have hr := q25a cs hc hl d hx3 g hgb 1 (.inr rfl)
   refine q006.exi hr [1000000000] [] rfl Tryz.call36 (by simp) ?_ (by simp) ?_ (.inl rfl) (fun y hy => ?_)
   ·simp -implicitDefEqProofs only [sR', Nat.reduceEqDiff, ↓reduceIte]
   ·simp -implicitDefEqProofs only [aR', go_sem]
   obtain ⟨q, e⟩ := y
   obtain ⟨hy1, hy2, hy3⟩ := hy
   (try simp only [] at hy1 hy2 hy3)
   (try simp only [])
   simp -implicitDefEqProofs only [cR', go_sem, opR, Nat.reduceBEq]
   refine q006.ref (q10p cs hc hl e hy3 6 (by omega)) [1000000000] [] rfl Tryz.call37 (by simp) ?_ (by simp) ?_ (.inl rfl) ?_
   ·simp -implicitDefEqProofs only [sR', Nat.reduceEqDiff, ↓reduceIte]
   ·simp -implicitDefEqProofs only [aR', go_sem]
   simp -implicitDefEqProofs only [cR', go_sem]
   have hs1 := q10o (cs := cs) hl hy3 6
   generalize q10m cs e 6 = z at hs1 ⊢
   obtain ⟨k, f⟩ := z
   simp only [] at hs1 ⊢
   refine ⟨fun hk => ?_, fun hk => ?_⟩
   ·have hu := q25b g hgb 1 (.inr rfl)
    refine q006.res hu [] rfl Tryz.call38 ?_ (.inl rfl) ?_
    ·simp -implicitDefEqProofs only [aR', go_sem]
    simp -implicitDefEqProofs only [cR', go_sem, opR, Nat.reduceBEq]
    refine q006.ref (q10p cs hc hl f hs1 20 (by omega)) [1000000000] [] rfl Tryz.call37 (by simp) ?_ (by simp) ?_ (.inl rfl) ?_
    ·simp -implicitDefEqProofs only [sR', Nat.reduceEqDiff, ↓reduceIte]
    ·simp -implicitDefEqProofs only [aR', go_sem]
    simp -implicitDefEqProofs only [cR', go_sem]
    have hs2 := q10o (cs := cs) hl hs1 20
    generalize q10m cs f 20 = z at hs2 ⊢
    obtain ⟨k2, f2⟩ := z
    simp only [] at hs2 ⊢
    refine ⟨fun hk2 => ?_, fun hk2 => ?_⟩
    ·refine ⟨_, Weak.trans (Weak.share 7 rfl) (Weak.o [(0, .own 1000000000), (2, .own 2), (3, .own 3), (4, .own 4), (5, .own 5), (6, .own 6), (7, .t (.pin [.i 0, rows (uniL g 1)] 0))] [(1000000000, .box [bytes cs, .i f2.1, .i f2.2]), (2, .box [.v (.slice none 0 0), .v (.slice none 0 0), .v (.slice none 0 0)]), (3, .box [.i 0, .v (.slice none 0 0)]), (4, .box [.i 0, .v (.slice none 0 0)]), (5, .box [nodes g.nd, rows g.w, rows g.v]), (6, .box [.i p, rows m])] [some 1000000000, some 2, some 3, some 4, some 5, some 6] ?_ ?_), ?_⟩
     ·simp -implicitDefEqProofs only [wR', Nat.reduceBEq, Nat.reduceEqDiff, ↓reduceIte, q0rg, T.toSh, T.toShL, nodes, q0vg]
     ·exact ⟨⟨_, rfl, .refl _⟩, rfl, ⟨_, rfl, .refl _⟩, rfl, ⟨_, rfl, .refl _⟩, rfl, ⟨_, rfl, .refl _⟩, rfl, ⟨_, rfl, .refl _⟩, rfl, ⟨_, rfl, .refl _⟩, rfl, trivial⟩
     simp -implicitDefEqProofs only [eR', go_sem, nodes]
     exact ⟨⟨⟨((g, (p, m), (0, uniL g 1)), f2), rfl, .inl rfl, ⟨hx1, hx2, q189 hgb (.inr rfl)⟩, hs2⟩, (q09v.refl _ _ _).upd _ (.inl (by simp))⟩, (q09v.refl _ _ _).upd _ (.inl (by simp))⟩
    ·refine ⟨_, Weak.trans (Weak.share 7 rfl) (Weak.o [(0, .own 1000000000), (2, .own 2), (3, .own 3), (4, .own 4), (5, .own 5), (6, .own 6), (7, .t (.pin [.i 1, rows (uniL g 1)] 0))] [(1000000000, .box [bytes cs, .i f2.1, .i f2.2]), (2, .box [.v (.slice none 0 0), .v (.slice none 0 0), .v (.slice none 0 0)]), (3, .box [.i 0, .v (.slice none 0 0)]), (4, .box [.i 0, .v (.slice none 0 0)]), (5, .box [nodes g.nd, rows g.w, rows g.v]), (6, .box [.i p, rows m])] [some 1000000000, some 2, some 3, some 4, some 5, some 6] ?_ ?_), ?_⟩
     ·simp -implicitDefEqProofs only [wR', Nat.reduceBEq, Nat.reduceEqDiff, ↓reduceIte, q0rg, T.toSh, T.toShL, nodes, q0vg]
     ·exact ⟨⟨_, rfl, .refl _⟩, rfl, ⟨_, rfl, .refl _⟩, rfl, ⟨_, rfl, .refl _⟩, rfl, ⟨_, rfl, .refl _⟩, rfl, ⟨_, rfl, .refl _⟩, rfl, ⟨_, rfl, .refl _⟩, rfl, trivial⟩
     simp -implicitDefEqProofs only [eR', go_sem, nodes]
     exact ⟨⟨⟨((g, (p, m), (1, uniL g 1)), f2), rfl, .inl rfl, ⟨hx1, hx2, q189 hgb (.inr rfl)⟩, hs2⟩, (q09v.refl _ _ _).upd _ (.inl (by simp))⟩, (q09v.refl _ _ _).upd _ (.inl (by simp))⟩
   ·skip
    refine q006.ref (q10p cs hc hl f hs1 20 (by omega)) [1000000000] [] rfl Tryz.call37 (by simp) ?_ (by simp) ?_ (.inl rfl) ?_
    ·simp -implicitDefEqProofs only [sR', Nat.reduceEqDiff, ↓reduceIte]
    ·simp -implicitDefEqProofs only [aR', go_sem]
    simp -implicitDefEqProofs only [cR', go_sem]
    have hs2 := q10o (cs := cs) hl hs1 20
    generalize q10m cs f 20 = z at hs2 ⊢
    obtain ⟨k2, f2⟩ := z
    simp only [] at hs2 ⊢
    refine ⟨fun hk2 => ?_, fun hk2 => ?_⟩
    ·refine ⟨_, Weak.trans (Weak.share 7 rfl) (Weak.o [(0, .own 1000000000), (2, .own 2), (3, .own 3), (4, .own 4), (5, .own 5), (6, .own 6), (7, .t (.pin [.i 0, rows (q)] 0))] [(1000000000, .box [bytes cs, .i f2.1, .i f2.2]), (2, .box [.v (.slice none 0 0), .v (.slice none 0 0), .v (.slice none 0 0)]), (3, .box [.i 0, .v (.slice none 0 0)]), (4, .box [.i 0, .v (.slice none 0 0)]), (5, .box [nodes g.nd, rows g.w, rows g.v]), (6, .box [.i p, rows m])] [some 1000000000, some 2, some 3, some 4, some 5, some 6] ?_ ?_), ?_⟩
     ·simp -implicitDefEqProofs only [wR', Nat.reduceBEq, Nat.reduceEqDiff, ↓reduceIte, q0rg, T.toSh, T.toShL, nodes, q0vg]
     ·exact ⟨⟨_, rfl, .refl _⟩, rfl, ⟨_, rfl, .refl _⟩, rfl, ⟨_, rfl, .refl _⟩, rfl, ⟨_, rfl, .refl _⟩, rfl, ⟨_, rfl, .refl _⟩, rfl, ⟨_, rfl, .refl _⟩, rfl, trivial⟩
     simp -implicitDefEqProofs only [eR', go_sem, nodes]
     exact ⟨⟨⟨((g, (p, m), (0, q)), f2), rfl, .inl rfl, ⟨hx1, hx2, ⟨by show q.length <= 400; omega, fun r hr => (hy2 r hr).2⟩⟩, hs2⟩, (q09v.refl _ _ _).upd _ (.inl (by simp))⟩, (q09v.refl _ _ _).upd _ (.inl (by simp))⟩
    ·refine ⟨_, Weak.trans (Weak.share 7 rfl) (Weak.o [(0, .own 1000000000), (2, .own 2), (3, .own 3), (4, .own 4), (5, .own 5), (6, .own 6), (7, .t (.pin [.i 1, rows (q)] 0))] [(1000000000, .box [bytes cs, .i f2.1, .i f2.2]), (2, .box [.v (.slice none 0 0), .v (.slice none 0 0), .v (.slice none 0 0)]), (3, .box [.i 0, .v (.slice none 0 0)]), (4, .box [.i 0, .v (.slice none 0 0)]), (5, .box [nodes g.nd, rows g.w, rows g.v]), (6, .box [.i p, rows m])] [some 1000000000, some 2, some 3, some 4, some 5, some 6] ?_ ?_), ?_⟩
     ·simp -implicitDefEqProofs only [wR', Nat.reduceBEq, Nat.reduceEqDiff, ↓reduceIte, q0rg, T.toSh, T.toShL, nodes, q0vg]
     ·exact ⟨⟨_, rfl, .refl _⟩, rfl, ⟨_, rfl, .refl _⟩, rfl, ⟨_, rfl, .refl _⟩, rfl, ⟨_, rfl, .refl _⟩, rfl, ⟨_, rfl, .refl _⟩, rfl, ⟨_, rfl, .refl _⟩, rfl, trivial⟩
     simp -implicitDefEqProofs only [eR', go_sem, nodes]
     exact ⟨⟨⟨((g, (p, m), (1, q)), f2), rfl, .inl rfl, ⟨hx1, hx2, ⟨by show q.length <= 400; omega, fun r hr => (hy2 r hr).2⟩⟩, hs2⟩, (q09v.refl _ _ _).upd _ (.inl (by simp))⟩, (q09v.refl _ _ _).upd _ (.inl (by simp))⟩
end

def q226 : CC :=
 (.seq (.reg [.o (.alloc 2 [.v (.slice none 0 0), .v (.slice none 0 0), .v (.slice none 0 0)]),.o (.alloc 3 [.v (.int .i64 0), .v (.slice none 0 0), .v (.int .i64 0), .v (.slice none 0 0), .v (.int .i64 0), .v (.int .i64 0)])])
 ((.seq (.reg [mv 10 0,.o (.call (some 11) (cf 15) [(sl 10)]),mv 9 11,.o (.extract 12 (sl 9) 0),.o (.extract 13 (sl 9) 1),.o (.extract 14 (sl 9) 2),.o (.alloc 4 [.v (.slice none 0 0), .v (.slice none 0 0), .v (.slice none 0 0)]),.o (.alloc 5 [.v (.int .i64 0), .v (.slice none 0 0)]),.o (.alloc 6 [.v (.int .i64 0), .v (.slice none 0 0)]),.o (.store 3 (sl 4) (sl 12)),.o (.store 2 (sl 5) (sl 13)),.o (.store 2 (sl 6) (sl 14))])
 ((.seq (.reg [ln 16 3 4,ln 17 2 5,ln 18 2 6,.o (.call (some 19) (cf 7) [(sl 16), (sl 17), (sl 18)]),mv 15 19,.o (.extract 20 (sl 15) 0),.o (.extract 21 (sl 15) 1),.o (.alloc 7 [.v (.int .i64 0), .v (.slice none 0 0), .v (.int .i64 0), .v (.slice none 0 0), .v (.int .i64 0), .v (.int .i64 0)]),.o (.store 6 (sl 7) (sl 20)),mv 8 21])
 ((.seq (.seq (.reg [mv 22 8,.o (.bin 23 .neq (sl 22) (ci 0))])
 ((.cond (sl 23) (.seq (.draw [] [kr (ln 24 3 4),(kE, ln 25 2 5),(kE, ln 26 2 6),(kE, .o (.build 27 [.v (.int .i64 0), .v (.slice none 0 0), .v (.int .i64 0), .v (.slice none 0 0), .v (.int .i64 0), .v (.int .i64 0)] [(0, 2), (2, 2), (4, 1), (5, 1)] [(0, (sl 25)), (1, (sl 26))])),(kH, .o (.store 3 (sl 2) (sl 24))),(kH, .o (.store 6 (sl 3) (sl 27)))])
 (.ret))
 .skip)))
 ((.seq (.seq (.reg [mv 28 0,.o (.call (some 29) (cf 37) [(sl 28), (ci 5)])])
 ((.block 0 (.seq (.reg [.o (.bin 31 .eql (sl 29) (ci 0)),mv 30 31])
 ((.cond (sl 30) (.reg [mv 32 0,fl 33 4 7,l1 34 33,.o (.bin 35 .add (sl 34) (ci 1)),fl 36 4 7,l1 37 36,.o (.bin 38 .sub (sl 37) (ci 1)),fl 39 4 7,l1 40 39,.o (.bin 41 .sub (sl 40) (ci 1000)),.o (.bslice 42 1 5 [(0, (sl 35)), (1, (sl 38)), (2, (sl 41)), (3, (ci (-1000000000000000))), (4, (ci (-1000000000000001)))]),.o (.call (some 43) (cf 45) [(sl 32), (sl 42)]),fl 44 4 7,.o (.store 1 (sl 44) (sl 43))])
 (.seq (.reg [.o (.bin 46 .eql (sl 29) (ci 1)),mv 45 46])
 ((.cond (sl 45) (.draw [50] [(.r false [1000000000, 50, 51], fl 47 5 7),(.r false [1000000000, 50, 51], l1 48 47),kr (mv 49 0),(kN, .o (.bslice 50 1 3 [(0, (ci 1)), (1, (ci (-1))), (2, (ci 1000))])),(.h (some [1000000000, 50]) [], .o (.call (some 51) (cf 45) [(sl 49), (sl 50)])),kr (.o (.bin 52 .add (sl 48) (sl 51))),kr (fl 53 5 7),(kH, .o (.store 1 (sl 53) (sl 52)))])
 .skip)))))))))
 ((.seq (.weak (.draw [] [kr (ln 54 3 4),(kE, ln 55 6 7),(kH, .o (.store 3 (sl 2) (sl 54))),(kH, .o (.store 6 (sl 3) (sl 55)))]))
 (.ret))))))))))))
theorem q23k {rin args Q} (ha : args.length <= 56) (h : fW 56 q226 [.cell 2 29, .cell 3 35] rin args Q) : Fun Tryz.prog 22 rin args Q :=
 Fun.of (H := ⟨[(9, 0, .r false [1000000000, 50, 51]), (9, 1, .r false [1000000000, 50, 51]), (9, 4, .h (some [1000000000, 50]) [])], [10]⟩) Tryz.func22 rfl rfl rfl (by kernel_rfl) ha (by decide) h

end Go.Ab
