/- A made claim is proved and is no longer so if a bound is tightened, and the program's MakeClaim, ClaimText and IsProved agree with the reference's: the law FnMadeClaims returns true for every list of bytes, in every run in which the three tables of Go's library that the row lists hold what the program's own text lays into them (the card's tie: they do). No conditions. -/
import Derived.Shelf.Strings.Builder1
import Derived.Shelf.Strings.Builder2
import Derived.Shelf.Strings.OnBuilder
import Derived.Shelf.Strings.BuilderF
import Derived.Shelf.Strings.BuilderK
import Derived.Shelf.Strings.Builder2Cap
import Derived.Shelf.Strconv.Itoa0
import Derived.Shelf.Strconv.Itoa1
import Derived.Shelf.LaysM
import Derived.Shelf.Strconv.Itoa2
import Derived.Shelf.Strconv.Itoa3
import Derived.Shelf.Strconv.Itoa4
import Derived.Shelf.Strings.BuilderCap
import Derived.Test.YtnnmgdngfofjlaaGreatDoorProg
import Derived.Lib.ItoaNum
import Derived.Lib.Join
import Derived.Test.YtnnmgdngfofjlaaGreatDoorRows
import Derived.Test.YtnnmgdngfofjlaaGreatDoorCards
import Derived.Test.YtnnmgdngfofjlaaGreatDoorTie
import Derived.Lay
import Derived.LaidSub
import Derived.Lib.LaidTab
import Derived.LaidMore
import Derived.LaidOnce
import Derived.SevenTiedAt
import Derived.Test.YtnnmgdngfofjlaaGreatDoorQ6
set_option linter.unusedSimpArgs false
set_option linter.unusedVariables false
set_option maxRecDepth 20000
/- Contracts: small functions of the laws: lists, strategies and claims alike. -/
namespace Go.Ab
open Go.Proofs

theorem q10g (cs : List Int) : Pure Tryz.prog 4 [bytes cs] (.b (decide ((cs.length : Int) > 4096))) := by
 refine q0zf (by simp) ?_
 simp -implicitDefEqProofs only [eR', go_sem, q0ya, bytes]
theorem q10h (a b : List Int) (ha : a.length <= 1000000000000) (hb : b.length <= 1000000000000) : Pure Tryz.prog 81 [ints a, ints b] (.b (decide (a = b))) := by
 refine q0zg (by simp) ?_
 simp -implicitDefEqProofs only [q0yb, ints, go_sem]
 refine ⟨fun h => ?_, fun h => ?_⟩
 ·have : a ≠ b := by rintro rfl; simp at h
  simp [this]
 ·have hab : a.length = b.length := by simp at h; omega
  refine SemC.loopR (σ := Nat) (fun i => St.of [(0, .t (ints a)), (1, .t (ints b)), (5, .t (.i i))] []) (fun i => i <= a.length /\ ∀ j, j < i -> a[j]? = b[j]?) (fun i => a.length - i) 0 (Weak.o _ [] [] ?_ trivial) ⟨by simp, fun j hj => by omega⟩ fun i hI R hn hr he => ?_
  ·simp -implicitDefEqProofs only [ints, wkR, Nat.reduceEqDiff, ↓reduceIte]
  ·simp -implicitDefEqProofs only [ints, go_sem, q0ve]
   refine ⟨fun h => ⟨by omega, by omega, by omega, fun c x hx hc => ⟨by omega, by omega, by omega, fun c' y hy hc' => ?_⟩⟩, fun h => he _ _ ?_⟩
   ·subst hc hc'
    simp -implicitDefEqProofs only [go_sem]
    refine ⟨fun h1 => hr _ ?_, fun h1 => hn _ (i + 1) (Weak.o _ [] [] ?_ trivial) ⟨by omega, fun j hj => ?_⟩ (by omega)⟩
    ·simp -implicitDefEqProofs only [go_sem]
     have : a ≠ b := by rintro rfl; rw [hx] at hy; cases hy; simp at h1
     simp [this]
    ·simp -implicitDefEqProofs only [ints, wkR, Nat.reduceEqDiff, ↓reduceIte, q0lb (by omega : i < a.length) ha]
    ·rcases Nat.lt_or_ge j i with h | h
     ·exact hI.2 j h
     ·have : j = i := by omega
      subst this
      rw [hx, hy]; simpa using h1
   ·simp -implicitDefEqProofs only [go_sem]
    have : a = b := by
     refine List.ext_getElem? fun j => ?_
     rcases Nat.lt_or_ge j i with h | h
     ·exact hI.2 j h
     ·rw [List.getElem?_eq_none (by omega), List.getElem?_eq_none (by omega)]
    simp [this]
theorem q17o (a b : List (List Int)) (ha : a.length <= 1000000000000) (hb : b.length <= 1000000000000) (hra : ∀ r ∈ a, r.length <= 1000000000000) (hrb : ∀ r ∈ b, r.length <= 1000000000000) :
  Pure Tryz.prog 64 [rows a, rows b] (.b (decide (a = b))) := by
 refine q175 (by simp) ?_
 simp -implicitDefEqProofs only [q16n, rows, go_sem]
 refine ⟨fun h => ?_, fun h => ?_⟩
 ·have : a ≠ b := by rintro rfl; simp at h
  simp [this]
 ·have hab : a.length = b.length := by simp at h; omega
  refine SemC.loopR (σ := Nat) (fun i => St.of [(0, .t (rows a)), (1, .t (rows b)), (5, .t (.i i))] []) (fun i => i <= a.length /\ ∀ j, j < i -> a[j]? = b[j]?) (fun i => a.length - i) 0 (Weak.o _ [] [] ?_ trivial) ⟨by simp, fun j hj => by omega⟩ fun i hI R hn hr he => ?_
  ·simp -implicitDefEqProofs only [rows, wkR, Nat.reduceEqDiff, ↓reduceIte]
  ·simp -implicitDefEqProofs only [rows, go_sem, q0ve]
   refine ⟨fun h => ⟨by omega, by omega, by omega, fun c x hx hc => ⟨by omega, by omega, by omega, fun c' y hy hc' => ?_⟩⟩, fun h => he _ _ ?_⟩
   ·subst hc hc'
    refine q004.pure (q10h x y (hra x (List.mem_of_getElem? hx)) (hrb y (List.mem_of_getElem? hy))) [] rfl Tryz.call81 (fun e R' _ => ?_) trivial (fun _ => rfl) ?_
    ·simp -implicitDefEqProofs only [vaR, go_sem]
    ·simp -implicitDefEqProofs only [go_sem]
     refine ⟨fun h1 => hr _ ?_, fun h1 => hn _ (i + 1) (Weak.o _ [] [] ?_ trivial) ⟨by omega, fun j hj => ?_⟩ (by omega)⟩
     ·simp -implicitDefEqProofs only [go_sem]
      have : a ≠ b := by rintro rfl; rw [hx] at hy; cases hy; simp at h1
      simp [this]
     ·simp -implicitDefEqProofs only [rows, wkR, Nat.reduceEqDiff, ↓reduceIte, q0lb (by omega : i < a.length) ha]
     ·rcases Nat.lt_or_ge j i with h | h
      ·exact hI.2 j h
      ·have : j = i := by omega
       subst this
       rw [hx, hy]; simpa using h1
   ·simp -implicitDefEqProofs only [go_sem]
    have : a = b := by
     refine List.ext_getElem? fun j => ?_
     rcases Nat.lt_or_ge j i with h | h
     ·exact hI.2 j h
     ·rw [List.getElem?_eq_none (by omega), List.getElem?_eq_none (by omega)]
    simp [this]
section
attribute [-go_sem] q0i5 q0id fldC lenC idxC q0ip q0lp
theorem q17p (s : Int × List (List Int)) (hs : q0q5 s.2) : Pure Tryz.prog 33 [.agg [.i s.1, .sh 1 (s.2.map ints)], .agg [.i s.1, .sh 1 (s.2.map ints)]] (.b true) := by
 refine q176 (by simp) ?_
 simp -implicitDefEqProofs only [eR', go_sem, q16o, show (s.1 == s.1) = true by simp]
 have hq := q17o s.2 s.2 hs.1 hs.1 hs.2 hs.2
 simp only [rows, decide_true] at hq
 refine q006.p hq [] rfl Tryz.call64 ?_ ?_
 ·simp -implicitDefEqProofs only [aR', go_sem]
 simp -implicitDefEqProofs only [eR', go_sem]
theorem q241 (c : Cl) (hf : q0q5 c.f.2) (hs : q0q5 c.s.2) : Pure Tryz.prog 12 [.agg [.i c.f.1, .sh 1 (c.f.2.map ints), .i c.s.1, .sh 1 (c.s.2.map ints), .i c.lo, .i c.hi], .agg [.i c.f.1, .sh 1 (c.f.2.map ints), .i c.s.1, .sh 1 (c.s.2.map ints), .i c.lo, .i c.hi]] (.b true) := by
 refine q22z (by simp) ?_
 simp -implicitDefEqProofs only [eR', go_sem, q21l]
 refine q006.p (q17p c.f hf) [] rfl Tryz.call33 ?_ ?_
 ·simp -implicitDefEqProofs only [aR', go_sem]
 simp -implicitDefEqProofs only [eR', go_sem]
 refine q006.p (q17p c.s hs) [] rfl Tryz.call33 ?_ ?_
 ·simp -implicitDefEqProofs only [aR', go_sem]
 simp -implicitDefEqProofs only [eR', go_sem, show (c.lo == c.lo) = true by simp, show (c.hi == c.hi) = true by simp]
end
theorem q24v {m : List (List Int)} (h : q17x m) : q0q9 m := ⟨by have := h.1; omega, fun r hr => by have := h.2 r hr; omega⟩
section
attribute [-go_sem] q0i5 q0id fldC lenC idxC q0ip q0lp
end
end Go.Ab

/- Games as data: the results of runs. -/
namespace Go.Ab

theorem q187 {k : Nat} : ∀ {m : List (List Int)}, (∀ r ∈ m, r.length <= k) -> tot m <= m.length * k
 | [], _ => by simp [tot]
 | r :: m, h => by
   have h1 := q187 (m := m) fun r hr => h r (by simp [hr])
   have h2 := h r (by simp)
   rw [tot, List.length_cons, Nat.add_mul, Nat.one_mul]; omega
theorem q17v {m : List (List Int)} (hl : m.length <= 1000) (h : ∀ r ∈ m, r.length <= 1000) : q0qc m := by
 have h1 := q187 h
 have h2 : m.length * 1000 <= 1000 * 1000 := Nat.mul_le_mul hl (Nat.le_refl _)
 exact ⟨by omega, by omega⟩
end Go.Ab

/- Contracts: drawn strategies, bounds and claims. -/
namespace Go.Ab
open Go.Proofs
section
attribute [-go_sem] q0i5 q0id fldC lenC idxC q0ip q0lp
def drCT (x : Gm × Cl) : T := .tup [.agg [.sh 5 (chunk q0lu x.1.nd), .sh 1 (x.1.w.map ints), .sh 1 (x.1.v.map ints)], .agg [.i x.2.f.1, .sh 1 (x.2.f.2.map ints), .i x.2.s.1, .sh 1 (x.2.s.2.map ints), .i x.2.lo, .i x.2.hi]]
theorem q24w {m : List (List Int)} (h : q17x m) : q0qc m := q17v (by have := h.1; omega) fun r hr => by have := h.2 r hr; omega
theorem q25h (cs : List Int) (hc : q161 cs) (hl : cs.length <= 100000000000) (a : Nat × Int) (ha : q0qx a) : Fun Tryz.prog 22 [.box [bytes cs, .i a.1, .i a.2]] [.own 1000000000] fun o r => ∃ x : (Gm × Cl) × (Nat × Int), o = [.box [bytes cs, .i x.2.1, .i x.2.2]] /\ r = drCT x.1 /\ (q11q x.1.1 /\ q17x x.1.2.f.2 /\ q17x x.1.2.s.2 /\ q0qx x.2) := by
 refine q23k (by simp) ?_
 simp -implicitDefEqProofs only [eR', go_sem, q226]
 have hp := q25c cs hc hl a ha
 simp only [dr3T] at hp
 refine q006.exi hp [1000000000] [] rfl Tryz.call15 (by simp) ?_ (by simp) ?_ (.inl rfl) (fun x hx => ?_)
 ·simp -implicitDefEqProofs only [sR', Nat.reduceEqDiff, ↓reduceIte]
 ·simp -implicitDefEqProofs only [aR', go_sem]
 simp -implicitDefEqProofs only [cR', go_sem, opR, Nat.reduceBEq]
 obtain ⟨⟨g, ⟨p, m⟩, ⟨q, m'⟩⟩, d⟩ := x
 obtain ⟨⟨hx1, hx2, hx3⟩, hd⟩ := hx
 (try simp only [] at hx1 hx2 hx3 hd)
 (try simp only [])
 refine q006.weak (Weak.trans (Weak.share 4 rfl) (Weak.trans (Weak.share 5 rfl) (Weak.trans (Weak.share 6 rfl) (Weak.o [(0, .own 1000000000), (2, .own 2), (3, .own 3), (4, .t (.pin [nodes g.nd, rows g.w, rows g.v] 0)), (5, .t (.pin [.i p, rows m] 0)), (6, .t (.pin [.i q, rows m'] 0)), (16, .t (.agg [.sh 5 (chunk q0lu g.nd), rows g.w, rows g.v])), (17, .t (.agg [.i p, rows m])), (18, .t (.agg [.i q, rows m']))] [(1000000000, .box [bytes cs, .i d.1, .i d.2]), (2, .box [.v (.slice none 0 0), .v (.slice none 0 0), .v (.slice none 0 0)]), (3, .box [.i 0, .v (.slice none 0 0), .i 0, .v (.slice none 0 0), .i 0, .i 0])] [some 1000000000, some 2, some 3] ?_ ?_)))) ?_
 ·simp -implicitDefEqProofs only [wR', Nat.reduceBEq, Nat.reduceEqDiff, ↓reduceIte, q0rg, T.toSh, T.toShL, nodes]
 ·exact ⟨⟨_, rfl, .refl _⟩, rfl, ⟨_, rfl, .refl _⟩, rfl, ⟨_, rfl, .refl _⟩, rfl, trivial⟩
 have hp := q253 g (p, m) (q, m') (q11r hx1) (q24w hx2) (q24w hx3)
 simp only [q0ck, q0tu, nodes, rows, mcO, q0qa] at hp
 refine q006.res hp [] rfl Tryz.call7 ?_ (.inl rfl) ?_
 ·simp -implicitDefEqProofs only [aR', go_sem]
 simp -implicitDefEqProofs only [cR', go_sem, nodes, rows, opR, Nat.reduceBEq]
 rcases Bool.eq_false_or_eq_true (q0nn g (p, m) (q, m')) with hpg | hpg
 ·rw [show mcR g (p, m) (q, m') = (⟨(p, m), (q, m'), -q01x g (p, m), q01x g (q, m')⟩, 0) by rw [mcR, if_pos hpg]]
  generalize -q01x g (p, m) = lo
  generalize q01x g (q, m') = hi
  refine ⟨fun h => by simp at h, fun _ => ?_⟩
  refine q006.ref (q10p cs hc hl d hd 5 (by omega)) [1000000000] [] rfl Tryz.call37 (by simp) ?_ (by simp) ?_ (.inl rfl) ?_
  ·simp -implicitDefEqProofs only [sR', Nat.reduceEqDiff, ↓reduceIte]
  ·simp -implicitDefEqProofs only [aR', go_sem]
  simp -implicitDefEqProofs only [cR', go_sem]
  have hs1 := q10o (cs := cs) hl hd 5
  generalize q10m cs d 5 = z at hs1 ⊢
  obtain ⟨k, f⟩ := z
  simp only [] at hs1 ⊢
  refine ⟨fun _ => ?_, fun _ => ⟨fun _ => ?_, fun _ => ?_⟩⟩
  ·have hp := q117 cs hc hl f hs1 [IntKind.i64.wrap (lo + 1), IntKind.i64.wrap (lo - 1), IntKind.i64.wrap (lo - 1000), -1000000000000000, -1000000000000001] (by simp) (by simp)
   have hs2 := q116 (cs := cs) hl hs1 [IntKind.i64.wrap (lo + 1), IntKind.i64.wrap (lo - 1), IntKind.i64.wrap (lo - 1000), -1000000000000000, -1000000000000001]
   generalize q115 cs f [IntKind.i64.wrap (lo + 1), IntKind.i64.wrap (lo - 1), IntKind.i64.wrap (lo - 1000), -1000000000000000, -1000000000000001] = z at hs2 hp ⊢
   obtain ⟨y, f2⟩ := z
   simp only [intsO, List.map_cons, List.map_nil] at hp hs2
   refine q006.ref hp [1000000000, 42] [] rfl Tryz.call45 (by simp) ?_ (by simp) ?_ (.inl rfl) ?_
   ·simp -implicitDefEqProofs only [sR', Nat.reduceEqDiff, ↓reduceIte]
   ·simp -implicitDefEqProofs only [aR', go_sem]
   simp -implicitDefEqProofs only [cR', go_sem]
   refine ⟨_, Weak.trans (Weak.share 7 rfl) (Weak.o [(0, .own 1000000000), (2, .own 2), (3, .own 3), (4, .t (.pin [nodes g.nd, rows g.w, rows g.v] 0)), (7, .t (.pin [.i p, rows m, .i q, rows m', .i y, .i hi] 0))] [(1000000000, .box [bytes cs, .i f2.1, .i f2.2]), (2, .box [.v (.slice none 0 0), .v (.slice none 0 0), .v (.slice none 0 0)]), (3, .box [.i 0, .v (.slice none 0 0), .i 0, .v (.slice none 0 0), .i 0, .i 0])] [some 1000000000, some 2, some 3] ?_ ?_), ?_⟩
   ·simp -implicitDefEqProofs only [wR', Nat.reduceBEq, Nat.reduceEqDiff, ↓reduceIte, q0rg, T.toSh, T.toShL, nodes, q0qa, q0vg]
   ·exact ⟨⟨_, rfl, .refl _⟩, rfl, ⟨_, rfl, .refl _⟩, rfl, ⟨_, rfl, .refl _⟩, rfl, trivial⟩
   simp -implicitDefEqProofs only [eR', go_sem, nodes]
   exact ⟨((g, ⟨(p, m), (q, m'), y, hi⟩), f2), rfl, rfl, hx1, hx2, hx3, hs2⟩
  ·have hp := q117 cs hc hl f hs1 [1, -1, 1000] (by simp) (by simp)
   have hs2 := q116 (cs := cs) hl hs1 [1, -1, 1000]
   generalize q115 cs f [1, -1, 1000] = z at hs2 hp ⊢
   obtain ⟨y, f2⟩ := z
   simp only [intsO, List.map_cons, List.map_nil] at hp hs2
   refine q002.ref hp [1000000000, 50] [] rfl Tryz.call45 (by simp) ?_ (by simp) (fun e R' hR => ?_) (.inl rfl) ?_
   ·simp -implicitDefEqProofs only [sR', Nat.reduceEqDiff, ↓reduceIte]
   ·simp -implicitDefEqProofs only [aR', go_sem]
   simp -implicitDefEqProofs only [cR', go_sem]
   refine ⟨?_, ((q09v.refl _ _ _).upd _ (.inl (by simp))).upd _ (.inl (by simp))⟩
   refine ⟨_, Weak.trans (Weak.share 7 rfl) (Weak.o [(0, .own 1000000000), (2, .own 2), (3, .own 3), (4, .t (.pin [nodes g.nd, rows g.w, rows g.v] 0)), (7, .t (.pin [.i p, rows m, .i q, rows m', .i lo, .i (IntKind.i64.wrap (hi + y))] 0))] [(1000000000, .box [bytes cs, .i f2.1, .i f2.2]), (2, .box [.v (.slice none 0 0), .v (.slice none 0 0), .v (.slice none 0 0)]), (3, .box [.i 0, .v (.slice none 0 0), .i 0, .v (.slice none 0 0), .i 0, .i 0])] [some 1000000000, some 2, some 3] ?_ ?_), ?_⟩
   ·simp -implicitDefEqProofs only [wR', Nat.reduceBEq, Nat.reduceEqDiff, ↓reduceIte, q0rg, T.toSh, T.toShL, nodes, q0qa, q0vg]
   ·exact ⟨⟨_, rfl, .refl _⟩, rfl, ⟨_, rfl, .refl _⟩, rfl, ⟨_, rfl, .refl _⟩, rfl, trivial⟩
   simp -implicitDefEqProofs only [eR', go_sem, nodes]
   exact ⟨((g, ⟨(p, m), (q, m'), lo, IntKind.i64.wrap (hi + y)⟩), f2), rfl, rfl, hx1, hx2, hx3, hs2⟩
  ·refine ⟨_, Weak.trans (Weak.share 7 rfl) (Weak.o [(0, .own 1000000000), (2, .own 2), (3, .own 3), (4, .t (.pin [nodes g.nd, rows g.w, rows g.v] 0)), (7, .t (.pin [.i p, rows m, .i q, rows m', .i lo, .i hi] 0))] [(1000000000, .box [bytes cs, .i f.1, .i f.2]), (2, .box [.v (.slice none 0 0), .v (.slice none 0 0), .v (.slice none 0 0)]), (3, .box [.i 0, .v (.slice none 0 0), .i 0, .v (.slice none 0 0), .i 0, .i 0])] [some 1000000000, some 2, some 3] ?_ ?_), ?_⟩
   ·simp -implicitDefEqProofs only [wR', Nat.reduceBEq, Nat.reduceEqDiff, ↓reduceIte, q0rg, T.toSh, T.toShL, nodes, q0qa, q0vg]
   ·exact ⟨⟨_, rfl, .refl _⟩, rfl, ⟨_, rfl, .refl _⟩, rfl, ⟨_, rfl, .refl _⟩, rfl, trivial⟩
   simp -implicitDefEqProofs only [eR', go_sem, nodes]
   exact ⟨((g, ⟨(p, m), (q, m'), lo, hi⟩), f), rfl, rfl, hx1, hx2, hx3, hs1⟩
 ·rw [show mcR g (p, m) (q, m') = (clZ, 1) by rw [mcR, hpg]; rfl]
  refine ⟨fun _ => ⟨((g, ⟨(p, m), (q, m'), 0, 0⟩), d), rfl, rfl, hx1, hx2, hx3, hd⟩, fun h => by simp at h⟩
end
section
attribute [-go_sem] q0i5 q0id fldC lenC idxC q0ip q0lp
theorem q103 {α : Type} {p : α -> Prop} (k0 : α) (h : ∀ k, k0 = k -> p k) : p k0 := h k0 rfl
end

def q21d : CC :=
 (.seq (.reg [.o (.box 2 (sl 0)),.o (.box 3 (sl 1)),.o (.move 4 (cv (.string ⟨#[]⟩))),.o (.move 5 (ci 0))])
 ((.seq (.seq (.reg [ln 9 3 2,ln 10 2 3,.o (.call (some 11) (cf 50) [(sl 9), (sl 10)]),.o (.un 12 .not (sl 11))])
 ((.cond (sl 12) (.seq (.reg [.o (.move 4 (cv (.string ⟨#[]⟩))),.o (.move 5 (ci 1))])
 (.ret))
 .skip)))
 ((.seq (.reg [.o (.alloc 6 [.bld 79 5 []])])
 ((.seq (.seq (.reg [ln 13 3 2,fl 14 0 3,l1 15 14,.o (.call (some 16) (cf 51) [(sl 13), (sl 15)]),.o (.lenS 17 (sl 16)),.o (.move 18 (ci 0))])
 ((.block 0 (.loop (.seq (.reg [.o (.bin 19 .lss (sl 18) (sl 17))])
 ((.seq (.cond (sl 19) .skip
 (.exit 0))
 ((.seq (.block 1 (.seq (.reg [mv 20 18,ix 21 16 18,l1 22 21,mv 7 20,mv 8 22])
 ((.draw [34] [kr (mv 23 8),kr (.o (.call (some 24) (cf 26) [(sl 23), (cv (.string ⟨#[47]⟩))])),kr (.o (.bin 25 .add (sl 24) (cv (.string ⟨#[58]⟩)))),kr (fl 26 1 3),kr (l1 27 26),kr (mv 28 7),kr (ix 29 27 28),kr (l1 30 29),kr (.o (.call (some 31) (cf 26) [(sl 30), (cv (.string ⟨#[44]⟩))])),kr (.o (.bin 32 .add (sl 25) (sl 31))),kr (.o (.bin 33 .add (sl 32) (cv (.string ⟨#[10]⟩)))),(.h (some [6]) [], .o (.call (some 34) (cf 52) [(sl 6), (sl 33)]))]))))
 ((.reg [.o (.bin 35 .add (sl 18) (ci 1)),mv 18 35])))))))))))
 ((.seq (.reg [.o (.call (some 36) (cf 53) [(sl 6)]),mv 4 36,.o (.move 5 (ci 0))])
 (.ret))))))))))
theorem q22r {rin args Q} (ha : args.length <= 37) (h : fW 37 q21d [.tmp 4, .tmp 5] rin args Q) : Fun Tryz.prog 25 rin args Q :=
 Fun.of (H := ⟨[(7, 11, .h (some [6]) [])], []⟩) Tryz.func25 rfl rfl rfl (by kernel_rfl) ha (by decide) h

end Go.Ab

/-
 DERIVED: THE SHELF's CONTRACTS AT THIS DUMP, IN PLAIN WORDS (tools/lay-plain.mjs out of 'TryzShelf.lean', which tools/lay-shelf.mjs wrote): THE SAME DECLARATIONS UNDER THE SAME NAMES: 'import', 'namespace', 'open', 'def', 'theorem' AND NOTHING ELSE: no command of the shelf's: FOR A HAND-IN. Each laying: the table of numbers ('.._ren') and one theorem, a field a fact of the dump's own or the kernel's comparison; each contract: ONE APPLICATION.
-/
namespace Go.Proofs
open Go.Shelf
def Tryz.lays169_ren : Go.Shelf.Ren := ⟨fun | 169 => 53 | n => n, fun | 70 => 77 | 9 => 9 | 0 => 0 | 72 => 79 | 37 => 22 | 127 => 105 | 3 => 3 | 5 => 5 | n => n, fun | n => n⟩
theorem Tryz.lays169 : Go.Proofs.Lays.n169 Tryz.prog Tryz.lays169_ren := {
 mixed := by kernel_rfl
 f169 := Tryz.func53.trans (congrArg some (by kernel_rfl))
 t0 := Tryz.underlying0
 a0 := Tryz.isAgg0
 z0 := Tryz.sizeOf0
 v0 := Tryz.zeroValue0
 t3 := Tryz.underlying3
 a3 := Tryz.isAgg3
 z3 := Tryz.sizeOf3
 v3 := Tryz.zeroValue3
 t9 := Tryz.underlying9
 a9 := Tryz.isAgg9
 z9 := Tryz.sizeOf9
 v9 := Tryz.zeroValue9
 t37 := Tryz.underlying22
 a37 := Tryz.isAgg22
 z37 := Tryz.sizeOf22
 v37 := Tryz.zeroValue22
 t70 := Tryz.underlying77
 a70 := Tryz.isAgg77
 z70 := Tryz.sizeOf77
 v70 := Tryz.zeroValue77
 t72 := Tryz.underlying79
 a72 := Tryz.isAgg79
 z72 := Tryz.sizeOf79
 v72 := Tryz.zeroValue79
 t127 := Tryz.underlying105
 a127 := Tryz.isAgg105
 z127 := Tryz.sizeOf105
 v127 := Tryz.zeroValue105 }
theorem Tryz.Builder_Extra_169 : Builder.Extra Tryz.prog Tryz.lays169_ren := {
 sizeBuilder := by kernel_rfl
 liesBuilder := by kernel_rfl
 t5 := Tryz.underlying5
 a5 := Tryz.isAgg5
 z5 := Tryz.sizeOf5
 v5 := Tryz.zeroValue5
 infoByte := by kernel_rfl
 cellsByte := by kernel_rfl
 sizeByte := by kernel_rfl
 neB5 := by decide }
open Go.RowKit in
open Go.RowKit in
open Go.RowKit in
open Go.RowKit in
open Go.RowKit in
def Tryz.lays156_ren : Go.Shelf.Ren := ⟨fun | 156 => 55 | 165 => 78 | 166 => 52 | 169 => 53 | 240 => 76 | 241 => 90 | 276 => 88 | 277 => 101 | n => n, fun | 31 => 86 | 9 => 9 | 3 => 3 | 4 => 4 | 0 => 0 | 20 => 20 | 72 => 79 | 76 => 83 | 70 => 77 | 37 => 22 | 75 => 82 | 127 => 105 | 164 => 118 | 5 => 5 | 80 => 85 | n => n, fun | n => n⟩
theorem Tryz.lays156 : Go.Proofs.Lays.n156 Tryz.prog Tryz.lays156_ren := {
 mixed := by kernel_rfl
 f156 := Tryz.func55.trans (congrArg some (by kernel_rfl))
 f165 := Tryz.func78.trans (congrArg some (by kernel_rfl))
 f166 := Tryz.func52.trans (congrArg some (by kernel_rfl))
 f169 := Tryz.func53.trans (congrArg some (by kernel_rfl))
 f240 := Tryz.func76.trans (congrArg some (by kernel_rfl))
 f241 := Tryz.func90.trans (congrArg some (by kernel_rfl))
 f276 := Tryz.func88.trans (congrArg some (by kernel_rfl))
 f277 := Tryz.func101.trans (congrArg some (by kernel_rfl))
 t0 := Tryz.underlying0
 a0 := Tryz.isAgg0
 z0 := Tryz.sizeOf0
 v0 := Tryz.zeroValue0
 t3 := Tryz.underlying3
 a3 := Tryz.isAgg3
 z3 := Tryz.sizeOf3
 v3 := Tryz.zeroValue3
 t4 := Tryz.underlying4
 a4 := Tryz.isAgg4
 z4 := Tryz.sizeOf4
 v4 := Tryz.zeroValue4
 t9 := Tryz.underlying9
 a9 := Tryz.isAgg9
 z9 := Tryz.sizeOf9
 v9 := Tryz.zeroValue9
 t20 := Tryz.underlying20
 a20 := Tryz.isAgg20
 z20 := Tryz.sizeOf20
 v20 := Tryz.zeroValue20
 t31 := Tryz.underlying86
 a31 := Tryz.isAgg86
 z31 := Tryz.sizeOf86
 v31 := Tryz.zeroValue86
 t37 := Tryz.underlying22
 a37 := Tryz.isAgg22
 z37 := Tryz.sizeOf22
 v37 := Tryz.zeroValue22
 t70 := Tryz.underlying77
 a70 := Tryz.isAgg77
 z70 := Tryz.sizeOf77
 v70 := Tryz.zeroValue77
 t72 := Tryz.underlying79
 a72 := Tryz.isAgg79
 z72 := Tryz.sizeOf79
 v72 := Tryz.zeroValue79
 t75 := Tryz.underlying82
 a75 := Tryz.isAgg82
 z75 := Tryz.sizeOf82
 v75 := Tryz.zeroValue82
 t76 := Tryz.underlying83
 a76 := Tryz.isAgg83
 z76 := Tryz.sizeOf83
 v76 := Tryz.zeroValue83
 t127 := Tryz.underlying105
 a127 := Tryz.isAgg105
 z127 := Tryz.sizeOf105
 v127 := Tryz.zeroValue105
 t164 := Tryz.underlying118
 a164 := Tryz.isAgg118
 z164 := Tryz.sizeOf118
 v164 := Tryz.zeroValue118 }
theorem Tryz.Builder_Extra_156 : Builder.Extra Tryz.prog Tryz.lays156_ren := {
 sizeBuilder := by kernel_rfl
 liesBuilder := by kernel_rfl
 t5 := Tryz.underlying5
 a5 := Tryz.isAgg5
 z5 := Tryz.sizeOf5
 v5 := Tryz.zeroValue5
 infoByte := by kernel_rfl
 cellsByte := by kernel_rfl
 sizeByte := by kernel_rfl
 neB5 := by decide }
open Go.RowKit in
open Go.RowKit in
theorem Tryz.strings_Join (bk o c : Nat) (xs : List ByteArray) (sep : ByteArray) (w : World) (hcells : ∀ (j : Nat) x, xs[j]? = some x -> w.cell? ⟨bk, o + j, none⟩ = some (.string x)) (hbk : bk < w.heap.size) (hN : xs.length <= 140737488355328) (hcap : xs.length <= c) (hlen : (Lib.join (xs.map (·.data.toList)) sep.data.toList).length <= 140737488355328) :
  Calls Tryz.prog 55 #[.slice (some ⟨bk, o, none⟩) xs.length c, .string sep] w fun e w' => e = .returned (.string ⟨(Lib.join (xs.map (·.data.toList)) sep.data.toList).toArray⟩) /\ Below w.heap.size w w' := Any.strings_Join Tryz.lays156 Tryz.Builder_Extra_156 bk o c xs sep w hcells hbk hN hcap hlen
open Go.RowKit in
open Go.RowKit in
open Go.RowKit in
open Go.RowKit in
open Go.RowKit in
open Go.RowKit in
open Go.RowKit in
open Go.RowKit in
open Go.Lib in
open Go.Lib in
open Go.Lib in
open Go.Lib in
open Go.RowKit Go.Sort Go.Lib in
def Tryz.laysM246_ren : Go.Shelf.Ren := ⟨fun | 246 => 89 | 283 => 97 | 284 => 98 | 285 => 99 | 286 => 100 | 129 => 107 | 317 => 106 | 318 => 108 | 319 => 109 | 320 => 110 | 337 => 112 | 338 => 113 | n => n, fun | 2 => 2 | 3 => 3 | 9 => 9 | 4 => 4 | 171 => 125 | 0 => 0 | 53 => 126 | 37 => 22 | 5 => 5 | 173 => 129 | 212 => 138 | 51 => 139 | 20 => 20 | 213 => 140 | 46 => 142 | 232 => 146 | 233 => 147 | n => n, fun | 17 => 0 | 18 => 2 | 19 => 3 | n => n⟩
open Go.RowKit Go.Sort Go.Lib in
open Go.RowKit Go.Sort Go.Lib in
def Tryz.laysM173_ren : Go.Shelf.Ren := ⟨fun | 173 => 77 | 246 => 89 | 283 => 97 | 284 => 98 | 285 => 99 | 286 => 100 | 129 => 107 | 317 => 106 | 318 => 108 | 319 => 109 | 320 => 110 | 337 => 112 | 338 => 113 | n => n, fun | 2 => 2 | 3 => 3 | 9 => 9 | 4 => 4 | 171 => 125 | 0 => 0 | 53 => 126 | 37 => 22 | 5 => 5 | 173 => 129 | 212 => 138 | 51 => 139 | 20 => 20 | 213 => 140 | 46 => 142 | 232 => 146 | 233 => 147 | n => n, fun | 17 => 0 | 18 => 2 | 19 => 3 | n => n⟩
theorem Tryz.laysM173 : Go.Proofs.LaysM.n173 Tryz.prog Tryz.laysM173_ren := {
 mixed := by kernel_rfl
 f129 := Tryz.func107.trans (congrArg some (by kernel_rfl))
 f173 := Tryz.func77.trans (congrArg some (by kernel_rfl))
 f246 := Tryz.func89.trans (congrArg some (by kernel_rfl))
 f283 := Tryz.func97.trans (congrArg some (by kernel_rfl))
 f284 := Tryz.func98.trans (congrArg some (by kernel_rfl))
 f285 := Tryz.func99.trans (congrArg some (by kernel_rfl))
 f286 := Tryz.func100.trans (congrArg some (by kernel_rfl))
 f317 := Tryz.func106.trans (congrArg some (by kernel_rfl))
 f318 := Tryz.func108.trans (congrArg some (by kernel_rfl))
 f319 := Tryz.func109.trans (congrArg some (by kernel_rfl))
 f320 := Tryz.func110.trans (congrArg some (by kernel_rfl))
 f337 := Tryz.func112.trans (congrArg some (by kernel_rfl))
 f338 := Tryz.func113.trans (congrArg some (by kernel_rfl))
 t0 := Tryz.underlying0
 a0 := Tryz.isAgg0
 z0 := Tryz.sizeOf0
 v0 := Tryz.zeroValue0
 t2 := Tryz.underlying2
 a2 := Tryz.isAgg2
 z2 := Tryz.sizeOf2
 v2 := Tryz.zeroValue2
 t3 := Tryz.underlying3
 a3 := Tryz.isAgg3
 z3 := Tryz.sizeOf3
 v3 := Tryz.zeroValue3
 t4 := Tryz.underlying4
 a4 := Tryz.isAgg4
 z4 := Tryz.sizeOf4
 v4 := Tryz.zeroValue4
 t5 := Tryz.underlying5
 a5 := Tryz.isAgg5
 z5 := Tryz.sizeOf5
 v5 := Tryz.zeroValue5
 t9 := Tryz.underlying9
 a9 := Tryz.isAgg9
 z9 := Tryz.sizeOf9
 v9 := Tryz.zeroValue9
 t20 := Tryz.underlying20
 a20 := Tryz.isAgg20
 z20 := Tryz.sizeOf20
 v20 := Tryz.zeroValue20
 t37 := Tryz.underlying22
 a37 := Tryz.isAgg22
 z37 := Tryz.sizeOf22
 v37 := Tryz.zeroValue22
 t46 := Tryz.underlying142
 a46 := Tryz.isAgg142
 z46 := Tryz.sizeOf142
 v46 := Tryz.zeroValue142
 t51 := Tryz.underlying139
 a51 := Tryz.isAgg139
 z51 := Tryz.sizeOf139
 v51 := Tryz.zeroValue139
 t53 := Tryz.underlying126
 a53 := Tryz.isAgg126
 z53 := Tryz.sizeOf126
 v53 := Tryz.zeroValue126
 t171 := Tryz.underlying125
 a171 := Tryz.isAgg125
 z171 := Tryz.sizeOf125
 v171 := Tryz.zeroValue125
 t173 := Tryz.underlying129
 a173 := Tryz.isAgg129
 z173 := Tryz.sizeOf129
 v173 := Tryz.zeroValue129
 t212 := Tryz.underlying138
 a212 := Tryz.isAgg138
 z212 := Tryz.sizeOf138
 v212 := Tryz.zeroValue138
 t213 := Tryz.underlying140
 a213 := Tryz.isAgg140
 z213 := Tryz.sizeOf140
 t232 := Tryz.underlying146
 a232 := Tryz.isAgg146
 z232 := Tryz.sizeOf146
 v232 := Tryz.zeroValue146
 t233 := Tryz.underlying147
 a233 := Tryz.isAgg147
 z233 := Tryz.sizeOf147
 v233 := Tryz.zeroValue147
 g17 := by kernel_rfl
 g18 := by kernel_rfl
 g19 := by kernel_rfl
 i0 := by kernel_rfl
 i2 := by kernel_rfl
 i3 := by kernel_rfl
 i4 := by kernel_rfl
 i5 := by kernel_rfl
 i9 := by kernel_rfl
 i20 := by kernel_rfl
 i37 := by kernel_rfl
 i46 := by kernel_rfl
 i51 := by kernel_rfl
 i53 := by kernel_rfl
 i171 := by kernel_rfl
 i173 := by kernel_rfl
 i212 := by kernel_rfl
 i232 := by kernel_rfl
 i233 := by kernel_rfl
 m17 := by kernel_rfl
 m18 := by kernel_rfl
 m19 := by kernel_rfl }
open Go.RowKit Go.Sort Go.Lib in
theorem Tryz.strconv_FormatInt_10 (n : Int) (h0 : -9223372036854775808 <= n) (h1 : n <= 9223372036854775807) (w : World) (htab : Lib.TabIs Tryz.prog w "internal/strconv.uint64pow10" .u64 Lib.pow10Tab) :
  Calls Tryz.prog 77 #[.int .i64 n, .int .i64 10] w fun e w' => e = .returned (.string ⟨(Lib.itoa n).toArray⟩) /\ ∃ k os, w' = grow (w.drewN k) os := Any.strconv_FormatInt_10 Tryz.laysM173 n h0 h1 w htab
def Tryz.lays173_ren : Go.Shelf.Ren := ⟨fun | 173 => 77 | 246 => 89 | 283 => 97 | 284 => 98 | 285 => 99 | 286 => 100 | 129 => 107 | 317 => 106 | 318 => 108 | 319 => 109 | 320 => 110 | 337 => 112 | 338 => 113 | n => n, fun | 2 => 2 | 3 => 3 | 9 => 9 | 4 => 4 | 171 => 125 | 0 => 0 | 53 => 126 | 37 => 22 | 5 => 5 | 173 => 129 | 212 => 138 | 51 => 139 | 20 => 20 | 213 => 140 | 46 => 142 | 232 => 146 | 233 => 147 | n => n, fun | 17 => 0 | 18 => 2 | 19 => 3 | n => n⟩
theorem Tryz.lays173 : Go.Proofs.Lays.n173 Tryz.prog Tryz.lays173_ren := {
 mixed := by kernel_rfl
 f129 := Tryz.func107.trans (congrArg some (by kernel_rfl))
 f173 := Tryz.func77.trans (congrArg some (by kernel_rfl))
 f246 := Tryz.func89.trans (congrArg some (by kernel_rfl))
 f283 := Tryz.func97.trans (congrArg some (by kernel_rfl))
 f284 := Tryz.func98.trans (congrArg some (by kernel_rfl))
 f285 := Tryz.func99.trans (congrArg some (by kernel_rfl))
 f286 := Tryz.func100.trans (congrArg some (by kernel_rfl))
 f317 := Tryz.func106.trans (congrArg some (by kernel_rfl))
 f318 := Tryz.func108.trans (congrArg some (by kernel_rfl))
 f319 := Tryz.func109.trans (congrArg some (by kernel_rfl))
 f320 := Tryz.func110.trans (congrArg some (by kernel_rfl))
 f337 := Tryz.func112.trans (congrArg some (by kernel_rfl))
 f338 := Tryz.func113.trans (congrArg some (by kernel_rfl))
 t0 := Tryz.underlying0
 a0 := Tryz.isAgg0
 z0 := Tryz.sizeOf0
 v0 := Tryz.zeroValue0
 t2 := Tryz.underlying2
 a2 := Tryz.isAgg2
 z2 := Tryz.sizeOf2
 v2 := Tryz.zeroValue2
 t3 := Tryz.underlying3
 a3 := Tryz.isAgg3
 z3 := Tryz.sizeOf3
 v3 := Tryz.zeroValue3
 t4 := Tryz.underlying4
 a4 := Tryz.isAgg4
 z4 := Tryz.sizeOf4
 v4 := Tryz.zeroValue4
 t5 := Tryz.underlying5
 a5 := Tryz.isAgg5
 z5 := Tryz.sizeOf5
 v5 := Tryz.zeroValue5
 t9 := Tryz.underlying9
 a9 := Tryz.isAgg9
 z9 := Tryz.sizeOf9
 v9 := Tryz.zeroValue9
 t20 := Tryz.underlying20
 a20 := Tryz.isAgg20
 z20 := Tryz.sizeOf20
 v20 := Tryz.zeroValue20
 t37 := Tryz.underlying22
 a37 := Tryz.isAgg22
 z37 := Tryz.sizeOf22
 v37 := Tryz.zeroValue22
 t46 := Tryz.underlying142
 a46 := Tryz.isAgg142
 z46 := Tryz.sizeOf142
 v46 := Tryz.zeroValue142
 t51 := Tryz.underlying139
 a51 := Tryz.isAgg139
 z51 := Tryz.sizeOf139
 v51 := Tryz.zeroValue139
 t53 := Tryz.underlying126
 a53 := Tryz.isAgg126
 z53 := Tryz.sizeOf126
 v53 := Tryz.zeroValue126
 t171 := Tryz.underlying125
 a171 := Tryz.isAgg125
 z171 := Tryz.sizeOf125
 v171 := Tryz.zeroValue125
 t173 := Tryz.underlying129
 a173 := Tryz.isAgg129
 z173 := Tryz.sizeOf129
 v173 := Tryz.zeroValue129
 t212 := Tryz.underlying138
 a212 := Tryz.isAgg138
 z212 := Tryz.sizeOf138
 v212 := Tryz.zeroValue138
 t213 := Tryz.underlying140
 a213 := Tryz.isAgg140
 z213 := Tryz.sizeOf140
 t232 := Tryz.underlying146
 a232 := Tryz.isAgg146
 z232 := Tryz.sizeOf146
 v232 := Tryz.zeroValue146
 t233 := Tryz.underlying147
 a233 := Tryz.isAgg147
 z233 := Tryz.sizeOf147
 v233 := Tryz.zeroValue147
 g17 := by kernel_rfl
 g18 := by kernel_rfl
 g19 := by kernel_rfl }
open Go.RowKit Go.Sort Go.Lib in
theorem Tryz.strconv_FormatInt_10_small (i : Nat) (hi : i < 100) (w : World) :
  Calls Tryz.prog 77 #[.int .i64 i, .int .i64 10] w fun e w' => e = .returned (.string ⟨(Lib.decDigits i).toArray⟩) /\ w' = w := Any.strconv_FormatInt_10_small Tryz.lays173 i hi w
end Go.Proofs

/- The library's builder of texts: its check against copies. -/
namespace Go.Ab
open Go.Proofs
set_option maxHeartbeats 1000000 in
set_option maxRecDepth 100000 in
theorem q213 (b : Nat) (w : World) (h0 : w.cell? ⟨b, 0, none⟩ = some (.pointer (some ⟨b, 0, none⟩))) :
  Calls Tryz.prog 76 #[.pointer (some ⟨b, 0, none⟩)] w fun e w' => e = .returned (.tuple #[]) /\ w' = w := by
 obtain ⟨j, hj, _⟩ := Option.map_eq_some_iff.1 (show (Tryz.prog.info? 79).map (·.size) = some 2 by kernel_rfl)
 go_enter Tryz.func76, Tryz.ntmps76
 go_wp2
 rw [Lib.run_neq_ptr_same w _ Tryz.underlying77 hj]
 go_wp2
 go_end0
 exact ⟨rfl, rfl⟩
set_option maxHeartbeats 1000000 in
set_option maxRecDepth 100000 in
theorem q212 (b : Nat) (w : World) (h0 : w.cell? ⟨b, 0, none⟩ = some (.pointer none)) (hsh : w.shape? b = some (79, 2)) (hfz : w.frozen? ⟨b, 0, none⟩ = false) :
  Calls Tryz.prog 76 #[.pointer (some ⟨b, 0, none⟩)] w fun e w' => e = .returned (.tuple #[]) /\ w' = w.setCell ⟨b, 0, none⟩ (.pointer (some ⟨b, 0, none⟩)) := by
 obtain ⟨j, hj, hjs⟩ := Option.map_eq_some_iff.1 (show (Tryz.prog.info? 79).map (·.size) = some 2 by kernel_rfl)
 go_enter Tryz.func76, Tryz.ntmps76
 go_wp2
 rw [Lib.run_to_unsafe w ⟨b, 0, none⟩ Tryz.underlying77 Tryz.underlying118 hj (by rw [hjs]; decide) hsh (Nat.zero_lt_succ 1)]
 simp only [Result.andThen]
 rw [Oper.upon_value]
 go_wp2
 rw [run_callFunc_extern Tryz.func88 (by kernel_rfl) (by kernel_rfl) (by kernel_rfl) (e := Extern.AbiNoEscape.same) (by kernel_rfl)]
 rw [Lib.run_noEscape]
 simp only [Result.andThen]
 rw [Oper.upon_value]
 go_wp2
 rw [Lib.run_from_unsafe w ⟨b, 0, none⟩ Tryz.underlying118 Tryz.underlying77 hj hsh (by kernel_rfl)]
 simp only [Result.andThen]
 rw [Oper.upon_value]
 go_wp2
 go_end0
 exact ⟨rfl, rfl⟩
end Go.Ab

/- The library's builder of texts: WriteString. -/
namespace Go.Ab
open Go.Proofs Go.Lib
theorem q20z {P : Program} (w : World) (t u ty e : TypeId) (i : TypeInfo) (ht : P.underlying t = some (.slice e)) (hu : P.underlying u = some .string) (hi : P.info? e = some i) (hz : i.zero = some (.int .u8 0))
  (hsize : i.size = 1) (hby : i.bytes = 1) (v : Value) (n : Nat) (xs : List Value) (hown : w.ownsRow 0 e 1 v n xs) (s : ByteArray)
  (h63 : n + s.size <= maxLen) (hbytes : n + s.size <= 140737488355328) :
  ∃ v' w', (Builtin.append_ #[t, u] ty #[v, .string s]).run P w = .ok v' w' /\ w'.ownsRow 0 e 1 v' (n + s.size) (xs ++ strCells s) /\ w.grownBy w' v.ownBlock ∧
    (v'.ownBlock = v.ownBlock ∨ v'.ownBlock = some w.heap.size) /\ (v = .slice none 0 0 /\ s.size = 0 -> v' = .slice none 0 0) := by
 obtain ⟨v', w', hr, h1, h2, h3⟩ := run_append_own_string (P := P) w 0 t u ty e i ht hu hi hz hsize hby v n xs hown s h63 hbytes (Nat.zero_le _)
 refine ⟨v', w', hr, h1, h2, ?_, h3.2⟩
 have hxl : xs.length = n := by simpa using hown.1
 have hown0 := hown
 rcases hown.2 with ⟨rfl, rfl⟩ | ⟨g, cap, cur, rfl, hbg, hg, hnc, hcm, hcs, htake⟩
 ·by_cases hm : s.size = 0
  ·left; rw [h3.2 ⟨rfl, hm⟩]
  ·have hr2 := run_append_nil_string (P := P) w t u ty e i (.int .u8 0) ht hu hi hz s (by omega) (by simp only [maxLen] at h63; omega) (by rw [hby]; omega)
   rw [hr] at hr2
   injection hr2 with e1 e2
   right; rw [e1]; rfl
 ·by_cases hroom : n + s.size <= cap
  ·have hcs' : cur.size = cap := by simpa using hcs
   have hr2 := run_append_room_string (P := P) w t u ty e i ht hu hi hsize g n cap cur hg s hroom (by omega)
   rw [hr] at hr2
   injection hr2 with e1 e2
   left; rw [e1]; rfl
  ·have holds : ∀ j u, xs[j]? = some u -> w.cell? ((⟨g, 0, none⟩ : Addr).add j) = some u := hown0.cells (g := g) rfl
   have hr2 := run_append_grow_string (P := P) w t u ty e i (.int .u8 0) ht hu hi hz ⟨g, 0, none⟩ n cap xs (by rw [hsize]; simpa using hxl) holds s (by omega) (by simp only [maxLen] at h63; omega) (by rw [hby]; exact growslice_fits (by omega) (by omega))
   rw [hr] at hr2
   injection hr2 with e1 e2
   right; rw [e1]; rfl
theorem q26b {P : Program} {w : World} {ops : Array Oper} {rest : List Oper} {o : Oper} {a : Act} {Q : Exit -> Act -> World -> Prop} (hgd : o.guard = none) (sl x : Operand) (t u : TypeId)
  (ho : o.op = .call { callee := .builtin .append, args := #[sl, x], argTypes := #[t, u] })
  (e : TypeId) (i : TypeInfo) (ht : P.underlying t = some (.slice e)) (hu : P.underlying u = some .string) (hi : P.info? e = some i) (hz : i.zero = some (.int .u8 0))
  (hsize : i.size = 1) (hby : i.bytes = 1)
  (v : Value) (n : Nat) (xs : List Value) (hs : a.eval sl = v) (hown : w.ownsRow 0 e 1 v n xs) (s : ByteArray) (hx : a.eval x = .string s)
  (h63 : n + s.size <= maxLen) (hbytes : n + s.size <= 140737488355328)
  (h : ∀ v' w', w'.ownsRow 0 e 1 v' (n + s.size) (xs ++ strCells s) -> w.grownBy w' v.ownBlock -> (v'.ownBlock = v.ownBlock ∨ v'.ownBlock = some w.heap.size) /\ (v = .slice none 0 0 /\ s.size = 0 -> v' = .slice none 0 0) -> wpList P ops Q rest (a.put o.dst v') w') : wpList P ops Q (o :: rest) a w := by
 refine wpList_plain hgd fun K hK => ?_
 obtain ⟨v', w', hr, h2, h3, h4⟩ := q20z (P := P) w t u o.type e i ht hu hi hz hsize hby v n xs hown s h63 hbytes
 unfold Oper.wp execOp
 simp only [ho, resolve, invoke, builtin, Sem.run_bind, Sem.run_pure, Result.andThen_ok, List.map_toArray, List.map_cons, List.map_nil, hs, hx, hr]
 exact hK _ _ (h v' w' h2 h3 h4)
end Go.Ab

/- The library's builder of texts: WriteString, walked. -/
namespace Go.Ab
open Go.Proofs Go.Lib
theorem q211 (b : Nat) (p v : Value) (w : World) (hp : p = .pointer none ∨ p = .pointer (some ⟨b, 0, none⟩)) (hb : w.heap[b]? = some (.cells #[p, v] 79 (0, 0))) :
  Calls Tryz.prog 76 #[.pointer (some ⟨b, 0, none⟩)] w fun e w' => e = .returned (.tuple #[]) /\ w'.heap[b]? = some (.cells #[.pointer (some ⟨b, 0, none⟩), v] 79 (0, 0)) /\ w'.os = w.os /\ w'.tape = w.tape /\ w'.output = w.output /\ w'.heap.size = w.heap.size /\ ∀ c, c ≠ b -> w'.heap[c]? = w.heap[c]? := by
 rcases hp with rfl | rfl
 ·refine (q212 b w (by rw [Lib.cell_of_heap hb]; rfl) (by simp [World.shape?, hb]) (Lib.frozen_of_heap hb 0)).mono ?_
  rintro e w' ⟨rfl, rfl⟩
  exact ⟨rfl, by simp [World.setCell, Array.getElem?_modify, hb], rfl, rfl, rfl, by simp, fun c hc => heap_setCell_other w _ c _ hc⟩
 ·refine (q213 b w (by rw [Lib.cell_of_heap hb]; rfl)).mono ?_
  rintro e w' ⟨rfl, rfl⟩
  exact ⟨rfl, hb, rfl, rfl, rfl, rfl, fun _ _ => rfl⟩
set_option maxHeartbeats 2000000 in
set_option maxRecDepth 100000 in
theorem q217 (b : Nat) (p v : Value) (bs : List Value) (s : ByteArray) (w : World) (hp : p = .pointer none ∨ p = .pointer (some ⟨b, 0, none⟩)) (hb : w.heap[b]? = some (.cells #[p, v] 79 (0, 0)))
  (hown : w.ownsRow 0 5 1 v bs.length bs) (hne : v.ownBlock ≠ some b) (hlen : bs.length + s.size <= 140737488355328) :
  Calls Tryz.prog 52 #[.pointer (some ⟨b, 0, none⟩), .string s] w fun e w' => e = .returned (.tuple #[.int .i64 s.size, .nilIface]) ∧
   ∃ v', w'.heap[b]? = some (.cells #[.pointer (some ⟨b, 0, none⟩), v'] 79 (0, 0)) /\ w'.ownsRow 0 5 1 v' (bs.length + s.size) (bs ++ strCells s) /\ w'.os = w.os /\ w'.tape = w.tape /\ w'.output = w.output /\ w.heap.size <= w'.heap.size ∧
     (∀ c, c < w.heap.size -> c ≠ b -> some c ≠ v.ownBlock -> w'.heap[c]? = w.heap[c]?) /\ (v'.ownBlock = v.ownBlock ∨ v'.ownBlock = some w.heap.size) /\ (v = .slice none 0 0 /\ s.size = 0 -> v' = .slice none 0 0) := by
 obtain ⟨i0, hi, hz0, hz1, hz2⟩ := info_parts Tryz.Builder_Extra_169.infoByte
 have e240 : ∀ args w, (callFunc 76 args).run Tryz.prog w = .ok (.enter 76 args) w := enters_of Tryz.func76 (by kernel_rfl) rfl
 go_enter Tryz.func52, Tryz.ntmps52
 go_wp2_with (go_at_fn 76; refine (q211 b p v _ hp hb).mono ?_)
 rintro e w1 ⟨rfl, hb1, ho1, ht1, hp1, hs1, hk1⟩
 have hown1 : w1.ownsRow 0 5 1 v bs.length bs := by
  refine ⟨hown.1, hown.2.imp id ?_⟩
  rintro ⟨g, cap, cur, hv, h1, h2, h3⟩
  refine ⟨g, cap, cur, hv, h1, ?_, h3⟩
  rw [hk1 g (fun e => hne (by rw [hv, e]; rfl))]; exact h2
 have c0 : w1.cell? ⟨b, 0, none⟩ = some (.pointer (some ⟨b, 0, none⟩)) := by rw [Lib.cell_of_heap hb1]; rfl
 have c1 : w1.cell? ⟨b, 1, none⟩ = some v := by rw [Lib.cell_of_heap hb1]; rfl
 go_wp2_with (at_builtin; refine q26b rfl _ _ 22 9 rfl 5 i0 Tryz.underlying22 Tryz.underlying9 hi hz0 hz1 hz2 _ _ _ rfl hown1 s rfl ?c3 ?c4 ?_)
 case c3 => unfold maxLen; omega
 case c4 => omega
 intro v' w2 hown' hgrow hblk hnil
 have hlt : b < w1.heap.size := by
  rcases Nat.lt_or_ge b w1.heap.size with h' | h'
  ·exact h'
  ·simp [Array.getElem?_eq_none h'] at hb1
 have hb2 : w2.heap[b]? = some (.cells #[.pointer (some ⟨b, 0, none⟩), v] 79 (0, 0)) := by
  rw [hgrow.block b hlt (fun e => hne e.symm)]
  exact hb1
 have d0 : w2.cell? ⟨b, 0, none⟩ = some (.pointer (some ⟨b, 0, none⟩)) := by rw [Lib.cell_of_heap hb2]; rfl
 have d1 : w2.cell? ⟨b, 1, none⟩ = some v := by rw [Lib.cell_of_heap hb2]; rfl
 have f1 : w2.frozen? ⟨b, 1, none⟩ = false := Lib.frozen_of_heap hb2 1
 obtain ⟨ao, n', cap, rfl⟩ : ∃ ao n' cap, v' = .slice ao n' cap := by
  rcases hown'.2 with ⟨hv, _⟩ | ⟨g, cap, cur, hv, _⟩
  ·exact ⟨_, _, _, hv⟩
  ·exact ⟨_, _, _, hv⟩
 go_wp2
 go_ret2
 have hne' : (Value.slice ao n' cap).ownBlock ≠ some b := by
  rcases hblk with h | h
  ·rw [h]; exact hne
  ·rw [h]; intro e; cases e; omega
 refine ⟨rfl, .slice ao n' cap, by simp [World.setCell, Array.getElem?_modify, hb2], ?_, hgrow.os.trans ho1, hgrow.tape.trans ht1, hgrow.output.trans hp1, ?_, fun c hc hcb hcv => ?_, ?_, fun h => hnil h.1 (by simpa using h.2)⟩
 ·exact hown'.kept (row := some b) ⟨rfl, rfl, rfl, by simp [World.setCell], fun k _ hk => heap_setCell_other _ _ _ _ (fun e => hk (by simp [e]))⟩ (Or.inr hne')
 ·have := hgrow.size; simp; omega
 ·rw [heap_setCell_other _ _ _ _ hcb, hgrow.block c (by omega) hcv, hk1 c hcb]
 ·exact hblk
end Go.Ab

/- Texts: digits and lists of numbers (the reference). -/
namespace Go.Ab
open Go.Proofs
def txt (l : List UInt8) : ByteArray := ⟨l.toArray⟩
def txtV (l : List UInt8) : T := .v (.string (txt l))
theorem q264 (l : List UInt8) : (txt l).size = l.length := by simp [txt, ByteArray.size]
theorem q263 (a b : List UInt8) : txt a ++ txt b = txt (a ++ b) := by
 apply ByteArray.ext
 simp [txt]
theorem q22i : ∀ (k n : Nat), 1 <= k -> n < 10 ^ k -> (Lib.decDigits n).length <= k
 | 0, n, h, _ => by omega
 | k + 1, n, _, h => by
   rw [Lib.decDigits]
   split
   ·simp
   ·rename_i h10
    have hk : 1 <= k := by
     rcases Nat.eq_zero_or_pos k with e | e
     ·subst e; simp at h; omega
     ·exact e
    have := q22i k (n / 10) hk (by rw [Nat.pow_succ] at h; omega)
    rw [List.length_append]; simp; omega
theorem q22h {n : Nat} (h : n <= 9223372036854775807) : (Lib.decDigits n).length <= 19 := q22i 19 n (by omega) (by omega)
theorem q26c {n : Int} (h0 : 0 <= n) (h1 : n < 256) : IntKind.u8.wrap n = n := by
 simp [IntKind.wrap, IntKind.bits, IntKind.signed]
 omega
theorem q22j {n : Nat} (h : n < 10) : IntKind.u8.wrap (IntKind.i64.wrap (48 + (n : Int))) = ((48 + n : Nat) : Int) := by
 rw [wrap64 (by omega) (by omega), q26c (by omega) (by omega)]; omega
section
attribute [-go_sem] q0i5 q0id fldC lenC idxC q0ip
theorem q256 (n : Nat) : n <= 9223372036854775807 -> Pure Tryz.prog 31 [.i n] (txtV (Lib.decDigits n)) := by
 induction n using Nat.strongRecOn with
 | _ n ih =>
   intro hn
   refine q239 (by simp) ?_
   by_cases h10 : n < 10
   ·simp -implicitDefEqProofs only [eR', go_sem, q21v, decide_eq_true (show (n : Int) < 10 by omega), q22j h10]
    rw [Lib.decDigits, dif_pos h10]; rfl
   ·have hih := ih (n / 10) (by omega) (by omega)
    have hq : IntKind.i64.wrap ((n : Int).tdiv 10) = ((n / 10 : Nat) : Int) := by rw [Int.tdiv_eq_ediv_of_nonneg (by omega), wrap64 (by omega) (by omega)]; omega
    have hr : (n : Int).tmod 10 = ((n % 10 : Nat) : Int) := by rw [Int.tmod_eq_emod_of_nonneg (by omega)]; omega
    have hl := q22h (n := n / 10) (by omega)
    have hb := q22j (n := n % 10) (by omega)
    simp -implicitDefEqProofs only [eR', go_sem, q21v, decide_eq_false (show ¬ (n : Int) < 10 by omega), hq]
    refine ⟨by decide, ?_⟩
    refine q004.pure hih [] rfl Tryz.call31 (fun e R' hR => ?_) (by first | trivial | simp [T.noSh, T.noShL, rat]) (fun _ => rfl) ?_
    ·simp -implicitDefEqProofs only [aR', go_sem]
    simp -implicitDefEqProofs only [eR', go_sem, hr, hb, txtV]
    have hd : Lib.decDigits n = Lib.decDigits (n / 10) ++ [UInt8.ofNat (48 + n % 10)] := by rw [Lib.decDigits, dif_neg h10]
    refine ⟨by decide, by rw [q264]; simp; omega, ?_⟩
    rw [hd, ← q263]; rfl
theorem q257 (n : Int) (h0 : -9223372036854775807 <= n) (h1 : n <= 9223372036854775807) : Pure Tryz.prog 30 [.i n] (txtV (Lib.itoa n)) := by
 refine q23a (by simp) ?_
 by_cases hn : n < 0
 ·have hd := q256 n.natAbs (by omega)
  have hw : IntKind.i64.wrap (0 - n) = ((n.natAbs : Nat) : Int) := by rw [wrap64 (by omega) (by omega)]; omega
  have hl := q22h (n := n.natAbs) (by omega)
  simp -implicitDefEqProofs only [eR', go_sem, q21w, decide_eq_true hn, hw]
  refine q006.p hd [] rfl Tryz.call31 ?_ ?_
  ·simp -implicitDefEqProofs only [aR', go_sem]
  simp -implicitDefEqProofs only [eR', go_sem, txtV]
  have hd2 : Lib.itoa n = [45] ++ Lib.decDigits n.natAbs := by rw [Lib.itoa, if_pos hn]; rfl
  refine ⟨by rw [q264]; simp; omega, ?_⟩
  rw [hd2, ← q263]; rfl
 ·have hd := q256 n.toNat (by omega)
  rw [show ((n.toNat : Nat) : Int) = n by omega] at hd
  simp -implicitDefEqProofs only [eR', go_sem, q21w, decide_eq_false hn]
  refine q006.p hd [] rfl Tryz.call31 ?_ ?_
  ·simp -implicitDefEqProofs only [aR', go_sem]
  simp -implicitDefEqProofs only [eR', go_sem, txtV]
  rw [Lib.itoa, if_neg hn]
end
def numT (sep : List UInt8) (l : List Int) : List UInt8 := Lib.join (l.map Lib.itoa) sep
theorem q25z (sep : List UInt8) (r : List (List UInt8)) (y : List UInt8) : Lib.joinTail sep (r ++ [y]) = Lib.joinTail sep r ++ (sep ++ y) := by
 simp [Lib.joinTail]
theorem q24e {sep : List UInt8} {l : List Int} (h : l ≠ []) (x : Int) : numT sep (l ++ [x]) = numT sep l ++ (sep ++ Lib.itoa x) := by
 match l, h with
 | a :: l, _ =>
   simp only [numT, List.cons_append, List.map_cons, List.map_append, List.map_nil, Lib.join_cons, q25z, List.append_assoc]
theorem q24d (sep : List UInt8) (x : Int) : numT sep [x] = Lib.itoa x := by rw [numT, List.map_cons, List.map_nil, Lib.join_one]
theorem q23x {x : Int} (h0 : -9223372036854775807 <= x) (h1 : x <= 9223372036854775807) : (Lib.itoa x).length <= 20 := by
 rw [Lib.itoa]
 split
 ·have := q22h (n := x.natAbs) (by omega); rw [List.length_cons]; omega
 ·have := q22h (n := x.toNat) (by omega); omega
theorem q23y {x : Int} (h : 0 <= x) : Lib.itoa x = Lib.decDigits x.toNat := by rw [Lib.itoa, if_neg (by omega)]
theorem q1lk {s : UInt8} : ∀ (l : List Int), (∀ x ∈ l, -9223372036854775807 <= x /\ x <= 9223372036854775807) -> (numT [s] l).length <= 21 * l.length := by
 have key : ∀ l : List Int, (∀ x ∈ l, -9223372036854775807 <= x /\ x <= 9223372036854775807) -> (Lib.joinTail [s] (l.map Lib.itoa)).length <= 21 * l.length := by
  intro l
  induction l with
  | nil => intro _; simp [Lib.joinTail]
  | cons a l ih =>
    intro h
    have h1 := ih fun x hx => h x (by simp [hx])
    have h2 := q23x (h a (by simp)).1 (h a (by simp)).2
    have e : Lib.joinTail [s] ((a :: l).map Lib.itoa) = ([s] ++ Lib.itoa a) ++ Lib.joinTail [s] (l.map Lib.itoa) := by simp [Lib.joinTail]
    rw [e, List.length_append, List.length_append, List.length_cons, List.length_cons, List.length_nil]; omega
 intro l h
 match l, h with
 | [], _ => simp [numT, Lib.join_nil]
 | a :: l, h =>
   have h1 := key l fun x hx => h x (by simp [hx])
   have h2 := q23x (h a (by simp)).1 (h a (by simp)).2
   rw [numT, List.map_cons, Lib.join_cons, List.length_append, List.length_cons]; omega
section
attribute [-go_sem] q0i5 q0id fldC lenC idxC q0ip
theorem q258 (l : List Int) (hl : l.length <= 1000000) (h : ∀ x ∈ l, 0 <= x /\ x <= 9223372036854775807) : Pure Tryz.prog 60 [ints l] (txtV (numT [44] l)) := by
 have hall : ∀ i, (numT [44] (l.take i)).length <= 21 * 1000000 := fun i => by
  have h1 := q1lk (s := 44) (l.take i) fun x hx => by have := h x (List.mem_of_mem_take hx); omega
  have h2 : (l.take i).length <= l.length := by rw [List.length_take]; omega
  omega
 refine q23b (by simp) ?_
 simp -implicitDefEqProofs only [eR', go_sem, q21x]
 refine SemC.loopR (σ := Nat) (fun i => St.of [(0, .t (ints l)), (3, .t (txtV (numT [44] (l.take i)))), (4, .t (.i i))] []) (fun i => i <= l.length) (fun i => l.length - i) 0 (Weak.o _ [] [] ?_ trivial) (by omega) fun i hi R hn hr he => ?_
 ·simp -implicitDefEqProofs only [wR', Nat.reduceBEq, Nat.reduceEqDiff, ↓reduceIte, show txtV (numT [44] (List.take 0 l)) = T.v (Value.string ⟨#[]⟩) from rfl]
 ·have hb := hall i
  rcases Nat.lt_or_ge i l.length with h9 | h9
  ·obtain ⟨x, hx⟩ : ∃ x, l[i]? = some x := ⟨_, List.getElem?_eq_getElem h9⟩
   obtain ⟨x0, x1⟩ := h x (List.mem_of_getElem? hx)
   have hd := q256 x.toNat (by omega)
   rw [show ((x.toNat : Nat) : Int) = x by omega, ← q23y x0] at hd
   have hxl := q23x (x := x) (by omega) x1
   rcases Nat.eq_zero_or_pos i with e | e
   ·subst e
    have hnx : numT [44] (l.take 1) = Lib.itoa x := by rw [q0uj hx, List.take_zero, List.nil_append, q24d]
    simp -implicitDefEqProofs only [eR', go_sem, txtV, hx, decide_eq_true (show ((0 : Nat) : Int) < (l.length : Int) by omega), decide_eq_false (show ¬ (((0 : Nat) : Int) > 0) by decide)]
    refine ⟨by omega, by omega, by omega, ?_⟩
    have e0 : numT [44] [] = [] := rfl
    refine q006.p hd [] rfl Tryz.call31 ?_ ?_
    ·simp -implicitDefEqProofs only [aR', go_sem]
    simp -implicitDefEqProofs only [eR', go_sem, txtV, e0, q263, List.nil_append, q264]
    refine ⟨by (try simp); omega, ?_⟩
    refine hn _ 1 (Weak.o _ [] [] ?_ trivial) (by omega) (by omega)
    simp -implicitDefEqProofs only [wR', Nat.reduceBEq, Nat.reduceEqDiff, ↓reduceIte, q0lb h9 (by omega), hnx, txtV, show IntKind.i64.wrap (0 + 1) = 1 from rfl]
   ·have hnx : numT [44] (l.take (i + 1)) = numT [44] (l.take i) ++ 44 :: Lib.itoa x := by
     rw [q0uj hx, q24e (fun e2 => by have := congrArg List.length e2; rw [List.length_take, List.length_nil] at this; omega)]; rfl
    simp -implicitDefEqProofs only [eR', go_sem, txtV, hx, decide_eq_true (show (i : Int) < (l.length : Int) by omega), decide_eq_true (show (i : Int) > 0 by omega), show (⟨#[44]⟩ : ByteArray) = txt [44] from rfl, q263, q264]
    refine ⟨by (try simp); omega, by omega, by omega, by omega, ?_⟩
    refine q006.p hd [] rfl Tryz.call31 ?_ ?_
    ·simp -implicitDefEqProofs only [aR', go_sem]
    simp -implicitDefEqProofs only [eR', go_sem, txtV, q263, q264, List.append_assoc]
    refine ⟨by (try simp); omega, ?_⟩
    refine hn _ (i + 1) (Weak.o _ [] [] ?_ trivial) (by omega) (by omega)
    simp -implicitDefEqProofs only [wR', Nat.reduceBEq, Nat.reduceEqDiff, ↓reduceIte, q0lb h9 (by omega), hnx, txtV, List.append_assoc]
  ·simp -implicitDefEqProofs only [eR', go_sem, decide_eq_false (show ¬ (i : Int) < (l.length : Int) by omega)]
   refine he _ _ ?_
   rw [List.take_of_length_le h9]
   simp -implicitDefEqProofs only [eR', go_sem]
end
structure Same0 (w w' : World) : Prop where
 os : w'.os = w.os
 tape : w'.tape = w.tape
 output : w'.output = w.output
 size : w.heap.size <= w'.heap.size
 frame : ∀ b : Nat, b < w.heap.size -> w'.heap[b]? = w.heap[b]?
theorem Same0.refl (w : World) : Same0 w w := ⟨rfl, rfl, rfl, Nat.le_refl _, fun _ _ => rfl⟩
theorem q24h {X : Nat -> Prop} {w w' : World} {hs : Nat -> Option Value} {fp : Nat -> List Nat} {v : Value} (hm : Mem X w [] hs fp) (h : Same0 w w') : Out X w hs fp v (.v v) [] [] fp w' := by
 have hn : ∀ r, fp r = [] := fun r => (hm.none r (by simp; omega)).2
 refine ⟨fun i t h => by simp at h, fun r _ => hn r, .rd (.v v), hm.disj, hm.nodup, by simp, fun r b hb => by rw [hn r] at hb; simp at hb, fun r b hb => by rw [hn r] at hb; simp at hb, fun b hb => by simp at hb, h.os, h.tape, h.output, h.size, fun b hb _ => h.frame b hb⟩
theorem int2 {w : World} {O : Nat -> Prop} {hs : Nat -> Option Value} {a b : Int} {vals : List Value} (hl : vals.length = [A.t (T.i a), A.t (T.i b)].length) (hi : ∀ i (h : i < [A.t (T.i a), A.t (T.i b)].length), Is w O hs [A.t (T.i a), A.t (T.i b)][i] (vals.getD i undef)) : vals.toArray = #[.int .i64 a, .int .i64 b] := by
 match vals, hl with
 | [x, y], _ =>
   have h0 := (hi 0 (by simp)).v_inv
   have h1 := (hi 1 (by simp)).v_inv
   simp only [List.getD_cons_zero, List.getD_cons_succ] at h0 h1
   rw [h0, h1]
theorem q25t (n : Nat) (hn : n < 100) : Pure Tryz.prog 77 [.i n, .i 10] (txtV (Lib.decDigits n)) := by
 intro X w vals hs fp hm hl hi
 rw [int2 hl hi]
 refine (Tryz.strconv_FormatInt_10_small n hn w).mono ?_
 rintro e w' ⟨rfl, rfl⟩
 exact ⟨_, _, [], [], fp, rfl, ⟨rfl, rfl⟩, rfl, q24h hm (Same0.refl _)⟩
def powG : T := .glob (Tryz.laysM173_ren.g 17) (Lib.pow10Tab.map fun z => .int .u64 z)
theorem q25y {w : World} {O : Nat -> Prop} {x : Value} (h : Rd w O powG x) : Lib.TabIs Tryz.prog w "internal/strconv.uint64pow10" .u64 Lib.pow10Tab := by
 cases h with
 | glob b vs x e fz hO hb =>
   unfold Lib.TabIs World.var?
   rw [Tryz.laysM173.m17]
   simp only [Option.bind_some]
   rw [hb]
theorem q25s (n : Int) (h0 : -9223372036854775808 <= n) (h1 : n <= 9223372036854775807) : FunG Tryz.prog powG 77 [] [.t (.i n), .t (.i 10)] fun o r => o = [] /\ r = txtV (Lib.itoa n) := by
 intro X w vals hs fp hm hl hi hg
 rw [int2 hl hi]
 refine (Tryz.strconv_FormatInt_10 n h0 h1 w (q25y hg)).mono ?_
 rintro e w' ⟨rfl, k, os, rfl⟩
 refine ⟨_, _, [], [], fp, rfl, ⟨rfl, rfl⟩, rfl, q24h hm ⟨rfl, rfl, rfl, ?_, fun b hb => ?_⟩⟩
 ·show w.heap.size <= (w.heap ++ os).size
  rw [Array.size_append]; omega
 ·show (w.heap ++ os)[b]? = w.heap[b]?
  rw [Array.getElem?_append_left hb]
section
attribute [-go_sem] q0i5 q0id fldC lenC idxC q0ip
theorem q23s (n : Nat) (hn : n < 100) : Pure Tryz.prog 54 [.i n] (txtV (Lib.decDigits n)) := by
 refine q22u (by simp) ?_
 simp -implicitDefEqProofs only [eR', go_sem, q21g]
 refine q006.p (q25t n hn) [] rfl Tryz.call77 ?_ ?_
 ·simp -implicitDefEqProofs only [aR', go_sem]
 simp -implicitDefEqProofs only [eR', go_sem]
end
end Go.Ab

/- The library's builder of texts: contracts over a builder as a root. -/
namespace Go.Ab
open Go.Proofs Go.Lib
theorem q218 {w : World} {e : TypeId} {bs : List Value} {v : Value} {g : List Nat} (h : q20y w e bs v g) : w.ownsRow 0 e 1 v bs.length bs /\ g = v.ownBlock.toList := by
 rcases h with ⟨rfl, rfl, rfl⟩ | ⟨k, cap, cur, rfl, rfl, h3, h4, h5, h6, h7, h8⟩
 ·exact ⟨⟨by simp, .inl ⟨rfl, rfl⟩⟩, rfl⟩
 ·exact ⟨⟨by simp, .inr ⟨k, cap, cur, rfl, Nat.zero_le _, h3, h4, h5, by omega, by rw [Nat.mul_one]; exact h7⟩⟩, rfl⟩
theorem q24i {w : World} {e : TypeId} {bs : List Value} {v : Value} {n : Nat} (h : w.ownsRow 0 e 1 v n bs) (hbs : bs = [] -> v = .slice none 0 0) : q20y w e bs v v.ownBlock.toList := by
 obtain ⟨h0, h⟩ := h
 have hn : bs.length = n := by omega
 subst hn
 rcases h with ⟨rfl, h1⟩ | ⟨k, cap, cur, rfl, _, h3, h4, h5, h6, h7⟩
 ·exact .inl ⟨rfl, List.eq_nil_of_length_eq_zero h1, rfl⟩
 ·exact .inr ⟨k, cap, cur, rfl, rfl, h3, h4, h5, by omega, by rw [Nat.mul_one] at h7; exact h7, fun h => by cases hbs h⟩
theorem q214 {w : World} {O : Nat -> Prop} {ty e : TypeId} {bs : List Value} {x : Value} {F : List Nat} (h : Ow w O (.bld ty e bs) x F) : ∃ b p v, x = .pointer (some ⟨b, 0, none⟩) /\ (p = .pointer none ∨ p = .pointer (some ⟨b, 0, none⟩)) /\ w.heap[b]? = some (.cells #[p, v] ty (0, 0)) /\ q20y w e bs v v.ownBlock.toList /\ F = b :: v.ownBlock.toList := by
 cases h with
 | rd h => cases h
 | bld ty e bs b p v g hp hb hv => have := (q218 hv).2; subst this; exact ⟨b, p, v, rfl, hp, hb, hv, rfl⟩
theorem q25x (bs : List Value) (s : ByteArray) (hlen : bs.length + s.size <= 140737488355328) : Fun Tryz.prog 52 [.bld 79 5 bs] [.own 1000000000, .t (.v (.string s))] fun o r => o = [.bld 79 5 (bs ++ strCells s)] /\ r = .tup [.i s.size, .v .nilIface] := by
 intro X w vals hs fp hm hl hi
 obtain ⟨x, hx, how, _⟩ := hm.root 0 _ rfl
 obtain ⟨b, p, v, rfl, hp, hb, hv, hF⟩ := q214 how
 have hx : hs 1000000000 = some (.pointer (some ⟨b, 0, none⟩)) := hx
 have hF : fp 1000000000 = b :: v.ownBlock.toList := hF
 have hnd := hm.nodup 1000000000
 rw [hF, List.nodup_cons] at hnd
 have hne : v.ownBlock ≠ some b := fun h => hnd.1 (by rw [h]; simp)
 match vals, hl with
 | [a0, a1], _ =>
   have h0 := (hi 0 (by simp)).own_inv
   have h1 := (hi 1 (by simp)).v_inv
   simp only [List.getD_cons_zero, List.getD_cons_succ] at h0 h1
   rw [hx] at h0; cases h0; subst h1
   refine (q217 b p v bs s w hp hb (q218 hv).1 hne hlen).mono ?_
   rintro e w' ⟨rfl, v', hb', hown', ho, ht, hpp, hsz, hfr, hblk, hnil⟩
   have hlt : b < w.heap.size := (Array.getElem?_eq_some_iff.1 hb).1
   have hne' : v'.ownBlock ≠ some b := by
    rcases hblk with h | h
    ·rw [h]; exact hne
    ·rw [h]; intro e; cases e; omega
   have hbuf := q24i hown' fun h => by
    obtain ⟨h1, h2⟩ := List.append_eq_nil_iff.1 h
    refine hnil ⟨?_, by have := congrArg List.length h2; simpa [strCells_length] using this⟩
    rcases hv with ⟨h3, _⟩ | ⟨_, _, _, _, _, _, _, _, _, _, h3⟩
    ·exact h3
    ·exact absurd h1 h3
   refine ⟨_, _, _, [], fun r => if r = 1000000000 then b :: v'.ownBlock.toList else [], rfl, ⟨rfl, rfl⟩, rfl, ?_⟩
   refine ⟨fun i t h => ?_, fun r hr => ?_, ?_, fun r r' c h h' => ?_, fun r => ?_, by simp, by simp, fun r c h => ?_, by simp, ho, ht, hpp, hsz, fun c hc hj => ?_⟩
   ·match i, h with
    | 0, h =>
      cases h
      exact ⟨_, hx, .bld 79 5 _ b _ v' _ (.inr rfl) hb' hbuf, .inl rfl⟩
   ·simp only [List.length_cons, List.length_nil] at hr
    exact if_neg (by omega)
   ·refine .rd (.tup (l := [.i s.size, .v .nilIface]) (vs := [.int .i64 s.size, .nilIface]) rfl fun i h => ?_)
    match i, h with
    | 0, _ => exact .v _
    | 1, _ => exact .v _
   ·try simp only at h h'
    split at h
    ·split at h'
     ·omega
     ·simp at h'
    ·simp at h
   ·try simp only
    split
    ·refine List.nodup_cons.2 ⟨fun h => ?_, ?_⟩
     ·simp only [Option.mem_toList] at h; exact hne' h
     ·cases v'.ownBlock <;> simp
    ·simp
   ·try simp only at h
    split at h
    ·rcases List.mem_cons.1 h with rfl | h
     ·exact .inl ⟨1000000000, by rw [hF]; simp⟩
     ·simp only [Option.mem_toList, Option.mem_def] at h
      rcases hblk with h2 | h2
      ·exact .inl ⟨1000000000, by rw [hF, ← h2, h]; simp⟩
      ·rw [h2] at h; cases h; exact .inr (Nat.le_refl _)
    ·simp at h
   ·have := hj 1000000000
    rw [hF] at this
    simp only [List.mem_cons, Option.mem_toList, Option.mem_def, not_or] at this
    exact hfr c hc this.1 (fun e => this.2 e.symm)
end Go.Ab

/- The library's builder of texts: String, walked; its contract. -/
namespace Go.Ab
open Go.Proofs Go.Lib
set_option maxHeartbeats 2000000 in
set_option maxRecDepth 100000 in
theorem q215 (b : Nat) (p : Value) (w : World) (hbk : w.heap[b]? = some (.cells #[p, .slice none 0 0] 79 (0, 0))) :
  Calls Tryz.prog 53 #[.pointer (some ⟨b, 0, none⟩)] w fun e w' => e = .returned (.string ⟨#[]⟩) /\ w' = w.drew := by
 have hUS : ∀ (W : World) (q : Option Addr), (Builtin.unsafeString_ #[105, 3] 9 #[.pointer q, .int .i64 0]).run Tryz.prog W = .ok (.string .empty) W := fun W q => Lib.run_unsafeString_none W _ _ _ q
 have c1 : w.drew.cell? ⟨b, 1, none⟩ = some (.slice none 0 0) := by
  have : w.drew.heap[b]? = some (.cells #[p, .slice none 0 0] 79 (0, 0)) := hbk
  rw [Lib.cell_of_heap this]; rfl
 have hSD : (Builtin.unsafeSliceData_ #[22] 105 #[.slice none 0 0]).run Tryz.prog w.drew = .ok (.pointer none) w.drew := rfl
 have mixed := Tryz.lays169.mixed
 go_enter Tryz.func53, Tryz.ntmps53
 go_wp2
 go_region_o
 all_goals (go_wp2; go_ret; exact ⟨rfl, rfl⟩)
set_option maxHeartbeats 2000000 in
set_option maxRecDepth 100000 in
theorem q216 (b g cap : Nat) (p : Value) (cur : Array Value) (l : List UInt8) (w : World) (h0 : l ≠ []) (hbk : w.heap[b]? = some (.cells #[p, .slice (some ⟨g, 0, none⟩) l.length cap] 79 (0, 0)))
  (hown : w.ownsRow 0 5 1 (.slice (some ⟨g, 0, none⟩) l.length cap) l.length (Lib.byteCells l)) (hg : w.heap[g]? = some (.cells cur 5 (0, 0))) (hnc : l.length <= cap) (hcm : cap <= maxLen) (hcs : cur.size = cap) :
  Calls Tryz.prog 53 #[.pointer (some ⟨b, 0, none⟩)] w fun e w' => e = .returned (.string ⟨l.toArray⟩) /\ w' = w.drew.freeze ⟨g, 0, none⟩ l.length := by
 have c1 : w.drew.cell? ⟨b, 1, none⟩ = some (.slice (some ⟨g, 0, none⟩) l.length cap) := by
  have : w.drew.heap[b]? = some (.cells #[p, .slice (some ⟨g, 0, none⟩) l.length cap] 79 (0, 0)) := hbk
  rw [Lib.cell_of_heap this]; rfl
 have hl0 : l.length ≠ 0 := by simpa using h0
 have hSD : (Builtin.unsafeSliceData_ #[22] 105 #[.slice (some ⟨g, 0, none⟩) l.length cap]).run Tryz.prog w.drew = .ok (.pointer (some ⟨g, 0, none⟩)) w.drew :=
  Lib.run_unsafeSliceData_row _ _ _ _ _ _ (by omega)
 have hUS : (Builtin.unsafeString_ #[105, 3] 9 #[.pointer (some ⟨g, 0, none⟩), .int .i64 l.length]).run Tryz.prog w.drew = .ok (.string ⟨l.toArray⟩) (w.drew.freeze ⟨g, 0, none⟩ l.length) := by
  refine Lib.run_unsafeString_row w.drew 105 3 9 5 Tryz.underlying105 Tryz.Builder_Extra_169.cellsByte g cur.size (by have hg' : w.drew.heap[g]? = some (.cells cur 5 (0, 0)) := hg; simp [World.shape?, hg']) l h0 (by omega) (by unfold maxLen at hcm; omega) ?_
  intro j x hx
  have := hown.cells (g := g) rfl j (.int .u8 x.toNat) (by simp [Lib.byteCells, hx])
  exact this
 have mixed := Tryz.lays169.mixed
 go_enter Tryz.func53, Tryz.ntmps53
 go_wp2
 go_region_o
 all_goals (go_wp2; go_ret; exact ⟨rfl, rfl⟩)
end Go.Ab

/- The library's builder of texts: the contract of String. -/
namespace Go.Ab
open Go.Proofs Go.Lib
theorem q25v (l : List UInt8) : Fun Tryz.prog 53 [.bld 79 5 (Lib.byteCells l)] [.own 1000000000] fun o r => o = [.any] /\ r = txtV l := by
 intro X w vals hs fp hm hl hi
 obtain ⟨x, hx, how, _⟩ := hm.root 0 _ rfl
 obtain ⟨b, p, v, rfl, hp, hb, hv, hF⟩ := q214 how
 have hx : hs 1000000000 = some (.pointer (some ⟨b, 0, none⟩)) := hx
 have hF : fp 1000000000 = b :: v.ownBlock.toList := hF
 have out : ∀ w' : World, w'.os = w.os -> w'.tape = w.tape -> w'.output = w.output -> w'.heap.size = w.heap.size -> (∀ c, some c ≠ v.ownBlock -> w'.heap[c]? = w.heap[c]?) →
   Out X w hs fp (.string (txt l)) (txtV l) [.any] [] (fun _ => []) w' := by
  intro w' h1 h2 h3 h4 h5
  refine ⟨fun i t h => ?_, fun r hr => rfl, .rd (.v _), by simp, by simp, by simp, by simp, by simp, by simp, h1, h2, h3, by omega, fun c hc hj => ?_⟩
  ·match i, h with
   | 0, h =>
     cases h
     exact ⟨_, hx, .rd (.any _), .inr rfl⟩
  ·refine h5 c fun e => hj 1000000000 ?_
   rw [hF, ← e]; simp
 match vals, hl with
 | [a0], _ =>
   have h0 := (hi 0 (by simp)).own_inv
   simp only [List.getD_cons_zero] at h0
   rw [hx] at h0; cases h0
   by_cases hl0 : l = []
   ·subst hl0
    rcases hv with ⟨rfl, _⟩ | ⟨_, _, _, _, _, _, _, _, _, _, h⟩
    ·refine (q215 b p w hb).mono ?_
     rintro e w' ⟨rfl, rfl⟩
     exact ⟨_, _, _, [], fun _ => [], rfl, ⟨rfl, rfl⟩, rfl, out _ rfl rfl rfl rfl fun _ _ => rfl⟩
    ·exact absurd rfl h
   ·rcases hv with ⟨_, h, _⟩ | ⟨k, cap, cur, rfl, _, h3, h4, h5, h6, h7, h8⟩
    ·exact absurd (by simpa [Lib.byteCells] using h) hl0
    ·have hlen : (Lib.byteCells l).length = l.length := Lib.byteCells_length l
     rw [hlen] at hb h4 h7
     have hlen0 : l.length ≠ 0 := by simpa using hl0
     refine (q216 b k cap p cur l w hl0 hb ⟨by rw [hlen]; simp, .inr ⟨k, cap, cur, rfl, Nat.zero_le _, h3, h4, h5, by omega, by rw [Nat.mul_one]; exact h7⟩⟩ h3 h4 h5 h6).mono ?_
     rintro e w' ⟨rfl, rfl⟩
     refine ⟨_, _, _, [], fun _ => [], rfl, ⟨rfl, rfl⟩, rfl, out _ ?_ ?_ ?_ ?_ fun c hc => ?_⟩
     ·simp only [World.freeze, hlen0, if_false]; rfl
     ·simp only [World.freeze, hlen0, if_false]; rfl
     ·simp only [World.freeze, hlen0, if_false]; rfl
     ·simp only [World.freeze, hlen0, if_false, Array.size_modify]; rfl
     ·simp only [World.freeze, hlen0, if_false, Array.getElem?_modify]
      rw [if_neg (fun e => hc (by rw [← e]; simp [Value.ownBlock, hlen]))]
      rfl
end Go.Ab

/- The library's texts: joined numbers (the program). -/
namespace Go.Ab
open Go.Proofs
theorem Same0.below {w w' : World} (h : Go.RowKit.Below w.heap.size w w') : Same0 w w' := ⟨h.os, h.tape, h.output, h.size, fun b hb => h.block b hb⟩
def txts (xs : List (List UInt8)) : T := .sh 1 (xs.map txtV)
theorem q25u (xs : List (List UInt8)) (sep : List UInt8) (h0 : xs ≠ []) (hx : xs.length <= 1000000) (hj : (Lib.join xs sep).length <= 140737488355328) : Pure Tryz.prog 55 [txts xs, txtV sep] (txtV (Lib.join xs sep)) := by
 intro X w vals hs fp hm hl hi
 have hpos := List.length_pos_iff.2 h0
 match vals, hl with
 | [x, y], _ =>
   have e0 := hi 0 (by simp)
   have e1 : y = .string (txt sep) := (hi 1 (by simp)).v_inv
   simp only [List.getD_cons_zero] at e0
   subst e1
   have e0 : Is w (Ob X fp) hs (.t (txts xs)) x := e0
   cases e0 with
   | t hr =>
     unfold txts at hr
     generalize hL : xs.map txtV = L at hr
     have hLl : L.length = xs.length := by rw [← hL, List.length_map]
     cases hr with
     | shNil => simp at hLl; omega
     | shZ => simp at hLl; omega
     | sh _ _ b off len cap cs e fz hO hb hsz hlen hc hcs =>
       have hlen : xs.length = len := by omega
       have key := Tryz.strings_Join b off cap (xs.map txt) (txt sep) w (fun j z hz => ?_) (Array.getElem?_eq_some_iff.1 hb).1 (by rw [List.length_map]; omega) (by rw [List.length_map]; omega) ?_
       ·rw [List.length_map, hlen] at key
        have hjn : Lib.join ((xs.map txt).map (·.data.toList)) (txt sep).data.toList = Lib.join xs sep := by
         rw [List.map_map]
         have : xs.map ((fun (a : ByteArray) => a.data.toList) ∘ txt) = xs.map id := List.map_congr_left fun a _ => by simp [txt]
         rw [this, List.map_id]; simp [txt]
        rw [hjn] at key
        refine key.mono ?_
        rintro e w' ⟨rfl, hB⟩
        exact ⟨_, _, [], [], fp, rfl, ⟨rfl, rfl⟩, rfl, q24h hm (Same0.below hB)⟩
       ·rw [List.getElem?_map] at hz
        obtain ⟨a, ha, rfl⟩ := Option.map_eq_some_iff.1 hz
        obtain ⟨hjl, rfl⟩ := List.getElem?_eq_some_iff.1 ha
        have h1 := hcs j (by omega)
        have hLj : L[j]'(by omega) = txtV xs[j] := by
         have : L[j]'(by omega) = (xs.map txtV)[j]'(by simpa using hjl) := by congr 1; exact hL.symm
         rw [this, List.getElem_map]
        rw [hLj] at h1
        rw [q060 hb (by omega)]
        generalize cs.getD (off + j) undef = u at h1
        unfold txtV at h1
        cases h1; rfl
       ·have hjn : Lib.join ((xs.map txt).map (·.data.toList)) (txt sep).data.toList = Lib.join xs sep := by
         rw [List.map_map]
         have : xs.map ((fun (a : ByteArray) => a.data.toList) ∘ txt) = xs.map id := List.map_congr_left fun a _ => by simp [txt]
         rw [this, List.map_id]; simp [txt]
        rw [hjn]; exact hj
def q22k (l : List Int) (i : Nat) : List T := (l.take i).map (fun x => txtV (Lib.itoa x)) ++ List.replicate (l.length - i) (txtV [])
theorem q22m {l : List Int} {i : Nat} (h : i <= l.length) : (q22k l i).length = l.length := by simp [q22k]; omega
theorem q22n {l : List Int} {i : Nat} {x : Int} (h : l[i]? = some x) : (q22k l i).set i (txtV (Lib.itoa x)) = q22k l (i + 1) := by
 have hi : i < l.length := (List.getElem?_eq_some_iff.1 h).1
 have hl : ((l.take i).map (fun x => txtV (Lib.itoa x))).length = i := by rw [List.length_map, List.length_take]; omega
 rw [q22k, List.set_append_right _ _ (by omega), hl, Nat.sub_self, show l.length - i = (l.length - (i + 1)) + 1 by omega, List.replicate_succ, List.set_cons_zero, q22k, q0uj h, List.map_append]
 simp
theorem q22l (l : List Int) : q22k l l.length = (l.map Lib.itoa).map txtV := by
 rw [q22k, List.take_length, Nat.sub_self, List.replicate_zero, List.append_nil, List.map_map]; rfl
theorem q24f (sep : List UInt8) (l : List Int) : Lib.join (l.map Lib.itoa) sep = numT sep l := rfl
theorem q261 : ∀ l : List (List UInt8), T.toShL (l.map txtV) = l.map txtV
 | [] => rfl
 | a :: l => by rw [List.map_cons, T.toShL, q261 l]; rfl
section
attribute [-go_sem] q0i5 q0id fldC lenC idxC q0ip
theorem q23v (l : List Int) (s : UInt8) (h0 : l ≠ []) (hl : l.length <= 1000) (h : ∀ x ∈ l, 0 <= x /\ x < 100) : Pure Tryz.prog 26 [ints l, txtV [s]] (txtV (numT [s] l)) := by
 have hjl := q1lk (s := s) l fun x hx => by have := h x hx; omega
 have hJ := q25u (l.map Lib.itoa) [s] (by simpa using h0) (by rw [List.length_map]; omega) (by rw [q24f]; omega)
 rw [q24f] at hJ
 unfold txts at hJ
 refine q22w (by simp) ?_
 simp -implicitDefEqProofs only [eR', go_sem, q21i, txtV]
 refine ⟨by omega, by omega, ?_⟩
 refine SemC.loopR (σ := Nat) (fun i => St.of [(1, .t (txtV [s])), (5, .own 95), (11, .t (ints l)), (12, .t (.i l.length)), (13, .t (.i i))] [(95, .arr 1 (q22k l i))]) (fun i => i <= l.length) (fun i => l.length - i) 0 (Weak.of _ _ [some 10] (by simp) (by simp) ?_ ⟨⟨_, rfl, ?_⟩, rfl, trivial⟩) (by omega) fun i hi R hn hr he => ?_
 ·simp -implicitDefEqProofs only [wR', Nat.reduceBEq, Nat.reduceEqDiff, ↓reduceIte, txtV]
 ·rw [q22k, List.take_zero, List.map_nil, List.nil_append, Nat.sub_zero]; exact .refl _
 ·have hfl := q22m hi
  rcases Nat.lt_or_ge i l.length with h9 | h9
  ·obtain ⟨x, hx⟩ : ∃ x, l[i]? = some x := ⟨_, List.getElem?_eq_getElem h9⟩
   obtain ⟨x0, x1⟩ := h x (List.mem_of_getElem? hx)
   have hd := q23s x.toNat (by omega)
   rw [show ((x.toNat : Nat) : Int) = x by omega, ← q23y x0] at hd
   have hset := q22n hx
   simp -implicitDefEqProofs only [eR', go_sem, hx, hfl, decide_eq_true (show (i : Int) < (l.length : Int) by omega)]
   refine ⟨by omega, by omega, by omega, ?_⟩
   refine q006.p hd [] rfl Tryz.call54 ?_ ?_
   ·simp -implicitDefEqProofs only [aR', go_sem]
   simp -implicitDefEqProofs only [eR', go_sem, hfl, txtV]
   refine ⟨by omega, by omega, by omega, ?_⟩
   refine hn _ (i + 1) (Weak.of _ _ [some 95] (by simp) (by simp) ?_ ⟨⟨_, rfl, by rw [← hset]; exact .refl _⟩, rfl, trivial⟩) (by omega) (by omega)
   simp -implicitDefEqProofs only [wR', Nat.reduceBEq, Nat.reduceEqDiff, ↓reduceIte, q0lb h9 (by omega), txtV]
  ·simp -implicitDefEqProofs only [eR', go_sem, decide_eq_false (show ¬ (i : Int) < (l.length : Int) by omega)]
   refine he _ _ ?_
   have e : i = l.length := by omega
   subst e
   rw [q22l]
   simp -implicitDefEqProofs only [eR', go_sem]
   have hty : txtV [s] = T.v (Value.string (txt [s])) := rfl
   have hsh : (T.arr 1 ((l.map Lib.itoa).map txtV)).toSh = .sh 1 ((l.map Lib.itoa).map txtV) := by rw [T.toSh, q261]
   refine q006.pure hJ [95] rfl Tryz.call55 ?_ trivial rfl ?_
   ·simp -implicitDefEqProofs only [aR', go_sem, hsh, hty]
   ·simp -implicitDefEqProofs only [eR', go_sem, txtV]
end
section
attribute [-go_sem] q0i5 q0id fldC lenC idxC q0ip
theorem q23r (n : Int) (h0 : -9223372036854775808 <= n) (h1 : n <= 9223372036854775807) : FunG Tryz.prog powG 54 [] [.t (.i n)] fun o r => o = [] /\ r = txtV (Lib.itoa n) := by
 refine Fun.ofG powG (H := ⟨[], []⟩) (rv := [.tmp 2]) (c := q21g) Tryz.func54 rfl rfl rfl (by kernel_rfl) (by simp) (by decide) ?_
 simp -implicitDefEqProofs only [eR', go_sem, q21g]
 refine q006.pureG (args := [.i n, .i 10]) (q25s n h0 h1) rfl [] rfl Tryz.call77 ?_ trivial rfl ?_
 ·simp -implicitDefEqProofs only [aR', go_sem]
 simp -implicitDefEqProofs only [eR', go_sem]
theorem q23u (l : List Int) (s : UInt8) (h0 : l ≠ []) (hl : l.length <= 1000) (h : ∀ x ∈ l, -9223372036854775807 <= x /\ x <= 9223372036854775807) : FunG Tryz.prog powG 26 [] [.t (ints l), .t (txtV [s])] fun o r => o = [] /\ r = txtV (numT [s] l) := by
 have hjl := q1lk (s := s) l h
 have hJ := q25u (l.map Lib.itoa) [s] (by simpa using h0) (by rw [List.length_map]; omega) (by rw [q24f]; omega)
 rw [q24f] at hJ
 unfold txts at hJ
 refine Fun.ofG powG (H := ⟨[], []⟩) (rv := [.tmp 4]) (c := q21i) Tryz.func26 rfl rfl rfl (by kernel_rfl) (by simp) (by decide) ?_
 simp -implicitDefEqProofs only [eR', go_sem, q21i, txtV]
 refine ⟨by omega, by omega, ?_⟩
 refine SemC.loopR (σ := Nat) (fun i => St.of [(1, .t (txtV [s])), (5, .own 95), (11, .t (ints l)), (12, .t (.i l.length)), (13, .t (.i i)), (1000000, .t powG)] [(95, .arr 1 (q22k l i))]) (fun i => i <= l.length) (fun i => l.length - i) 0 (Weak.of _ _ [some 10] (by simp) (by simp) ?_ ⟨⟨_, rfl, ?_⟩, rfl, trivial⟩) (by omega) fun i hi R hn hr he => ?_
 ·simp -implicitDefEqProofs only [wR', Nat.reduceBEq, Nat.reduceEqDiff, ↓reduceIte, txtV]
 ·rw [q22k, List.take_zero, List.map_nil, List.nil_append, Nat.sub_zero]; exact .refl _
 ·have hfl := q22m hi
  rcases Nat.lt_or_ge i l.length with h9 | h9
  ·obtain ⟨x, hx⟩ : ∃ x, l[i]? = some x := ⟨_, List.getElem?_eq_getElem h9⟩
   obtain ⟨x0, x1⟩ := h x (List.mem_of_getElem? hx)
   have hd := q23r x (by omega) x1
   have hset := q22n hx
   simp -implicitDefEqProofs only [eR', go_sem, hx, hfl, decide_eq_true (show (i : Int) < (l.length : Int) by omega)]
   refine ⟨by omega, by omega, by omega, ?_⟩
   refine q006.pureG (args := [.i x]) hd rfl [] rfl Tryz.call54 ?_ trivial rfl ?_
   ·simp -implicitDefEqProofs only [aR', go_sem]
   simp -implicitDefEqProofs only [eR', go_sem, hfl, txtV]
   refine ⟨by omega, by omega, by omega, ?_⟩
   refine hn _ (i + 1) (Weak.of _ _ [some 95] (by simp) (by simp) ?_ ⟨⟨_, rfl, by rw [← hset]; exact .refl _⟩, rfl, trivial⟩) (by omega) (by omega)
   simp -implicitDefEqProofs only [wR', Nat.reduceBEq, Nat.reduceEqDiff, ↓reduceIte, q0lb h9 (by omega), txtV]
  ·simp -implicitDefEqProofs only [eR', go_sem, decide_eq_false (show ¬ (i : Int) < (l.length : Int) by omega)]
   refine he _ _ ?_
   have e : i = l.length := by omega
   subst e
   rw [q22l]
   simp -implicitDefEqProofs only [eR', go_sem]
   have hty : txtV [s] = T.v (Value.string (txt [s])) := rfl
   have hsh : (T.arr 1 ((l.map Lib.itoa).map txtV)).toSh = .sh 1 ((l.map Lib.itoa).map txtV) := by rw [T.toSh, q261]
   refine q006.pure hJ [95] rfl Tryz.call55 ?_ trivial rfl ?_
   ·simp -implicitDefEqProofs only [aR', go_sem, hsh, hty]
   ·simp -implicitDefEqProofs only [eR', go_sem, txtV]
end
def q242 (x p : List Int) : List UInt8 := numT [47] x ++ (58 :: (numT [44] p ++ [10]))
def stTo (g : Gm) (s : Int × List (List Int)) (i : Nat) : List UInt8 := ((List.range i).map fun e => q242 ((sets g s.1).getD e []) (s.2.getD e [])).flatten
def q25l (g : Gm) (s : Int × List (List Int)) : List UInt8 := stTo g s (sets g s.1).length
theorem q25k (g : Gm) (s : Int × List (List Int)) (i : Nat) : stTo g s (i + 1) = stTo g s i ++ q242 ((sets g s.1).getD i []) (s.2.getD i []) := by
 simp [stTo, List.range_succ]
theorem q24u {g : Gm} {pl : Int} {e : Nat} {x : List Int} (h : (sets g pl)[e]? = some x) : ∃ i c : Nat, x = [(i : Int), (c : Int)] /\ i < g.nd.length /\ c < g.w.length := by
 obtain ⟨n, hn, c, hc, rfl⟩ := q0r5 (List.mem_of_getElem? h)
 unfold idxs at hn
 obtain ⟨i, hi, rfl⟩ := List.mem_map.1 hn
 have := List.mem_range.1 (List.mem_filter.1 hi).1
 exact ⟨i, c, rfl, this, hc⟩
theorem q25q {g : Gm} {s : Int × List (List Int)} (h : strB g s = true) : s.2.length = (sets g s.1).length /\ ∀ p ∈ s.2, p.length <= 4 /\ ∀ x ∈ p, 0 <= x /\ x <= 60 := by
 obtain ⟨h1, h2, h3⟩ := q0tr h
 simp only [q0ft, Bool.and_eq_true, decide_eq_true_eq, List.all_eq_true, List.mem_range] at h3
 refine ⟨h3.1, fun p hp => ?_⟩
 obtain ⟨e, he, rfl⟩ := List.mem_iff_getElem.1 hp
 have h4 := h3.2 e (by omega)
 have hg : s.2.getD e [] = s.2[e] := by rw [List.getD_eq_getElem?_getD, List.getElem?_eq_getElem he]; rfl
 rw [hg] at h4
 obtain ⟨i, c, hi, hc, hpp, _, hsz⟩ := q11p (g := g) (pl := s.1) (e := e) (by omega)
 obtain ⟨p1, p2, p3, p4, p5⟩ := q0fn h1
 obtain ⟨t1, t2, t3, t4⟩ := q0g0 p1
 have hch : (g.nd.getD i nd0).ch.length <= 4 := by
  have hx : g.nd[i]? = some (g.nd.getD i nd0) := by rw [List.getD_eq_getElem?_getD, List.getElem?_eq_getElem hi]; rfl
  exact (q0ks (t2 _ _ hx)).2.2.2.2.2
 simp only [q0nt, Bool.and_eq_true, decide_eq_true_eq, List.all_eq_true] at h4
 exact ⟨by rw [h4.1.1, hsz]; exact hch, h4.1.2⟩
theorem q244 {i c : Nat} {p : List Int} (hi : i <= 60) (hc : c <= 60) (hp : p.length <= 4) (hx : ∀ x ∈ p, 0 <= x /\ x <= 60) : (q242 [(i : Int), (c : Int)] p).length <= 200 := by
 have h1 := q1lk (s := 47) [(i : Int), (c : Int)] (fun x hx => by simp at hx; omega)
 have h2 := q1lk (s := 44) p (fun x h => by have := hx x h; omega)
 rw [q242, List.length_append, List.length_cons, List.length_append]
 simp only [List.length_cons, List.length_nil] at h1 ⊢
 omega
theorem q25j {g : Gm} {s : Int × List (List Int)} (h : strB g s = true) : ∀ i, i <= (sets g s.1).length -> (stTo g s i).length <= 200 * i
 | 0, _ => by simp [stTo]
 | i + 1, hi => by
   have ih := q25j h i (by omega)
   obtain ⟨hl, hp⟩ := q25q h
   obtain ⟨p1, p2, p3, p4, p5⟩ := q0fn (q0tr h).1
   obtain ⟨t1, t2, t3, t4⟩ := q0g0 p1
   obtain ⟨x, hx⟩ : ∃ x, (sets g s.1)[i]? = some x := ⟨_, List.getElem?_eq_getElem (by omega)⟩
   obtain ⟨a, c, rfl, ha, hc⟩ := q24u hx
   obtain ⟨q, hq⟩ : ∃ q, s.2[i]? = some q := ⟨_, List.getElem?_eq_getElem (by omega)⟩
   obtain ⟨q1, q2⟩ := hp q (List.mem_of_getElem? hq)
   rw [q25k, List.length_append, show (sets g s.1).getD i [] = [(a : Int), (c : Int)] by rw [List.getD_eq_getElem?_getD, hx]; rfl, show s.2.getD i [] = q by rw [List.getD_eq_getElem?_getD, hq]; rfl]
   have := q244 (i := a) (c := c) (p := q) (by omega) (by omega) q1 q2
   omega
def q25i (g : Gm) (s : Int × List (List Int)) : List UInt8 × Int := if strB g s = true then (q25l g s, 0) else ([], 1)
theorem q243 (a : List UInt8) (x y : Int) (p : List UInt8) : (((((a ++ Lib.itoa x) ++ [47]) ++ Lib.itoa y) ++ [58]) ++ p) ++ [10] = a ++ (numT [47] [x, y] ++ (58 :: (p ++ [10]))) := by
 have e : numT [47] [x, y] = Lib.itoa x ++ (47 :: Lib.itoa y) := by
  have := q24e (sep := [47]) (l := [x]) (by simp) y
  rw [q24d] at this; exact this
 rw [e]; simp
section
attribute [-go_sem] q0i5 q0id fldC lenC idxC q0ip
theorem q254 (g : Gm) (s : Int × List (List Int)) (hg : q0cf g) (hs : q0q9 s.2) : Pure Tryz.prog 29 [q0ck g, q0tu s] (.tup [txtV (q25i g s).1, .i (q25i g s).2]) := by
 have hst := q252 g s hg hs
 simp only [q0ck, q0tu, nodes, rows] at hst
 refine q237 (by simp) ?_
 simp -implicitDefEqProofs only [eR', go_sem, q21t, q0ck, q0tu, nodes]
 unfold q25i
 cases hb : strB g s with
 | false =>
   rw [hb] at hst
   refine q006.p hst [] rfl Tryz.call58 ?_ ?_
   ·simp -implicitDefEqProofs only [aR', go_sem]
   simp -implicitDefEqProofs only [eR', go_sem, show (!false) = true from rfl]
   rfl
 | true =>
   rw [hb] at hst
   refine q006.p hst [] rfl Tryz.call58 ?_ ?_
   ·simp -implicitDefEqProofs only [aR', go_sem]
   simp -implicitDefEqProofs only [eR', go_sem, show (!true) = false from rfl]
   obtain ⟨hl, hp⟩ := q25q hb
   have hlen := q25j hb
   obtain ⟨p1, p2, p3, p4, p5⟩ := q0fn (q0tr hb).1
   obtain ⟨t1, t2, t3, t4⟩ := q0g0 p1
   have hsl := q0re g s.1 t1.2 p2.2
   have hsr := q0h9 g s.1 t1.2 p2.2
   refine q006.res hsr [] rfl Tryz.call59 ?_ (.inl rfl) ?_
   ·simp -implicitDefEqProofs only [aR', go_sem]
   simp -implicitDefEqProofs only [cR', go_sem, q0qa]
   refine SemC.loopR (σ := Nat) (fun i => St.of [(3, .own 93), (6, .t (rows (sets g s.1))), (7, .t (txtV (stTo g s i))), (8, .t (.i i))] [(93, .box [.i s.1, rows s.2])]) (fun i => i <= (sets g s.1).length) (fun i => (sets g s.1).length - i) 0 (Weak.trans (Weak.share 16 rfl) (Weak.of _ _ [some 3] (by simp) (by simp) ?_ ⟨⟨_, rfl, .refl _⟩, rfl, trivial⟩)) (by omega) fun i hi R hn hr he => ?_
   ·simp -implicitDefEqProofs only [wR', Nat.reduceBEq, Nat.reduceEqDiff, ↓reduceIte, q0rg, q16b, show txtV (stTo g s 0) = T.v (Value.string ⟨#[]⟩) from rfl]
   ·have hb200 := hlen i hi
    rcases Nat.lt_or_ge i (sets g s.1).length with h9 | h9
    ·obtain ⟨x, hx⟩ : ∃ x, (sets g s.1)[i]? = some x := ⟨_, List.getElem?_eq_getElem h9⟩
     obtain ⟨a, c, rfl, ha, hc⟩ := q24u hx
     obtain ⟨q, hq⟩ : ∃ q, s.2[i]? = some q := ⟨_, List.getElem?_eq_getElem (by omega)⟩
     obtain ⟨q1, q2⟩ := hp q (List.mem_of_getElem? hq)
     have hnx : stTo g s (i + 1) = stTo g s i ++ q242 [(a : Int), (c : Int)] q := by
      rw [q25k, show (sets g s.1).getD i [] = [(a : Int), (c : Int)] by rw [List.getD_eq_getElem?_getD, hx]; rfl, show s.2.getD i [] = q by rw [List.getD_eq_getElem?_getD, hq]; rfl]
     have hda := q256 a (by omega)
     have hdc := q256 c (by omega)
     rw [show Lib.decDigits a = Lib.itoa (a : Int) by rw [q23y (by omega), Int.toNat_natCast]] at hda
     rw [show Lib.decDigits c = Lib.itoa (c : Int) by rw [q23y (by omega), Int.toNat_natCast]] at hdc
     have hli := q258 q (by omega) fun x hx => by have := q2 x hx; omega
     have la := q23x (x := (a : Int)) (by omega) (by omega)
     have lc := q23x (x := (c : Int)) (by omega) (by omega)
     have lq := q1lk (s := 44) q fun x hx => by have := q2 x hx; omega
     simp -implicitDefEqProofs only [eR', go_sem, txtV, hx, hq, decide_eq_true (show (i : Int) < ((sets g s.1).length : Int) by omega)]
     have k47 : (⟨#[47]⟩ : ByteArray) = txt [47] := rfl
     have k58 : (⟨#[58]⟩ : ByteArray) = txt [58] := rfl
     have k10 : (⟨#[10]⟩ : ByteArray) = txt [10] := rfl
     refine ⟨by omega, by omega, by omega, ?_⟩
     refine q004.pure hda [] rfl Tryz.call31 (fun e R' hR => ?_) (by first | trivial | simp [T.noSh, T.noShL, rat]) (fun _ => rfl) ?_
     ·simp -implicitDefEqProofs only [aR', go_sem]
     simp -implicitDefEqProofs only [eR', go_sem, txtV, k47, q263, q264, List.length_append, hx]
     refine ⟨by (try simp); omega, by (try simp); omega, by omega, by omega, by omega, ?_⟩
     refine q004.pure hdc [] rfl Tryz.call31 (fun e R' hR => ?_) (by first | trivial | simp [T.noSh, T.noShL, rat]) (fun _ => rfl) ?_
     ·simp -implicitDefEqProofs only [aR', go_sem]
     simp -implicitDefEqProofs only [eR', go_sem, txtV, k47, k58, q263, q264, List.length_append, hq]
     refine ⟨by (try simp); omega, by (try simp); omega, by omega, by omega, by omega, ?_⟩
     refine q004.pure hli [] rfl Tryz.call60 (fun e R' hR => ?_) (by first | trivial | simp [T.noSh, T.noShL, rat]) (fun _ => rfl) ?_
     ·simp -implicitDefEqProofs only [aR', go_sem]
     simp -implicitDefEqProofs only [eR', go_sem, txtV, k10, q263, q264, List.length_append]
     refine ⟨by (try simp); omega, by (try simp); omega, ?_⟩
     refine hn _ (i + 1) (Weak.of _ _ [some 93] (by simp) (by simp) ?_ ⟨⟨_, rfl, .refl _⟩, rfl, trivial⟩) (by omega) (by omega)
     have hcat : (((((stTo g s i ++ Lib.itoa (a : Int)) ++ [47]) ++ Lib.itoa (c : Int)) ++ [58]) ++ numT [44] q) ++ [10] = stTo g s (i + 1) := by rw [hnx, q242]; exact q243 _ _ _ _
     simp -implicitDefEqProofs only [wR', Nat.reduceBEq, Nat.reduceEqDiff, ↓reduceIte, q0lb h9 (by omega), txtV, hcat]
    ·simp -implicitDefEqProofs only [eR', go_sem, decide_eq_false (show ¬ (i : Int) < ((sets g s.1).length : Int) by omega)]
     refine he _ _ ?_
     have e : i = (sets g s.1).length := by omega
     subst e
     simp -implicitDefEqProofs only [eR', go_sem, q25l]
end
def q22g (g : Gm) (c : Cl) : List UInt8 := q25l g c.f ++ q25l g c.s ++ numT [32] [c.lo, c.hi, unit g] ++ [10]
def q22f (g : Gm) (c : Cl) : List UInt8 × Int := if q22d g c = 0 then (q22g g c, 0) else ([], q22d g c)
theorem num3 (a : List UInt8) (x y z : Int) : (((((a ++ Lib.itoa x) ++ [32]) ++ Lib.itoa y) ++ [32]) ++ Lib.itoa z) ++ [10] = a ++ numT [32] [x, y, z] ++ [10] := by
 have e1 : numT [32] [x, y] = Lib.itoa x ++ (32 :: Lib.itoa y) := by
  have := q24e (sep := [32]) (l := [x]) (by simp) y
  rw [q24d] at this; exact this
 have e2 : numT [32] [x, y, z] = (Lib.itoa x ++ (32 :: Lib.itoa y)) ++ (32 :: Lib.itoa z) := by
  have := q24e (sep := [32]) (l := [x, y]) (by simp) z
  rw [e1] at this; exact this
 rw [e2]; simp
theorem q25m {g : Gm} {s : Int × List (List Int)} (h : strB g s = true) : (q25l g s).length <= 72000 := by
 obtain ⟨p1, p2, p3, p4, p5⟩ := q0fn (q0tr h).1
 obtain ⟨t1, t2, t3, t4⟩ := q0g0 p1
 have h1 := q0re g s.1 t1.2 p2.2
 have h2 := q25j h _ (Nat.le_refl _)
 unfold q25l; omega
section
attribute [-go_sem] q0i5 q0id fldC lenC idxC q0ip
theorem q24x (g : Gm) (c : Cl) (hg : q0cf g) (hf : q0q9 c.f.2) (hs : q0q9 c.s.2) : Pure Tryz.prog 10 [q0ck g, q06g c] (.tup [txtV (q22f g c).1, .i (q22f g c).2]) := by
 have hcd := q25g g c hg hf hs
 have ht1 := q254 g c.f hg hf
 have ht2 := q254 g c.s hg hs
 simp only [q0ck, q06g, nodes, rows] at hcd
 simp only [q0ck, q0tu, nodes, rows] at ht1 ht2
 refine q230 (by simp) ?_
 simp -implicitDefEqProofs only [eR', go_sem, q21m, q0ck, q06g, nodes]
 refine q006.p hcd [] rfl Tryz.call28 ?_ ?_
 ·simp -implicitDefEqProofs only [aR', go_sem]
 simp -implicitDefEqProofs only [eR', go_sem]
 refine ⟨fun h => ?_, fun h => ?_⟩
 ·have h : ¬ q22d g c = 0 := by simpa using h
  rw [q22f, if_neg h]; rfl
 have h : q22d g c = 0 := by simpa using h
 obtain ⟨a1, a2⟩ := q22e.1 h
 obtain ⟨b1, b2, b3, b4, b5⟩ := q24o.1 a2
 obtain ⟨f1, f2, _, _⟩ := q0np b1
 have ba := q01y f1
 have bb := q01y f2
 have hhi : -9223372036854775807 <= c.hi := by omega
 rw [q25i, if_pos f1] at ht1
 rw [q25i, if_pos f2] at ht2
 have l1 := q25m f1
 have l2 := q25m f2
 have hu := q269 a1
 have hn1 := q257 c.lo (by omega) (by omega)
 have hn2 := q257 c.hi hhi (by omega)
 have hun := q25e g a1
 simp only [q0ck, nodes, rows] at hun
 have hd := q256 (unit g).toNat (by omega)
 rw [show (((unit g).toNat : Nat) : Int) = unit g by omega, ← q23y hu.1] at hd
 have k1 := q23x (x := c.lo) (by omega) (by omega)
 have k2 := q23x (x := c.hi) hhi (by omega)
 have k3 := q23x (x := unit g) (by omega) (by omega)
 have k32 : (⟨#[32]⟩ : ByteArray) = txt [32] := rfl
 have k10 : (⟨#[10]⟩ : ByteArray) = txt [10] := rfl
 refine q006.p ht1 [] rfl Tryz.call29 ?_ ?_
 ·simp -implicitDefEqProofs only [aR', go_sem]
 simp -implicitDefEqProofs only [eR', go_sem, txtV]
 refine q006.p ht2 [] rfl Tryz.call29 ?_ ?_
 ·simp -implicitDefEqProofs only [aR', go_sem]
 simp -implicitDefEqProofs only [eR', go_sem, txtV, q263, q264, List.length_append]
 refine ⟨by (try simp); omega, ?_⟩
 refine q004.pure hn1 [] rfl Tryz.call30 (fun e R' hR => ?_) (by first | trivial | simp [T.noSh, T.noShL, rat]) (fun _ => rfl) ?_
 ·simp -implicitDefEqProofs only [aR', go_sem]
 simp -implicitDefEqProofs only [eR', go_sem, txtV, k32, q263, q264, List.length_append]
 refine ⟨by (try simp); omega, by (try simp); omega, ?_⟩
 refine q004.pure hn2 [] rfl Tryz.call30 (fun e R' hR => ?_) (by first | trivial | simp [T.noSh, T.noShL, rat]) (fun _ => rfl) ?_
 ·simp -implicitDefEqProofs only [aR', go_sem]
 simp -implicitDefEqProofs only [eR', go_sem, txtV, k32, q263, q264, List.length_append]
 refine ⟨by (try simp); omega, by (try simp); omega, ?_⟩
 refine q004.pure hun [] rfl Tryz.call32 (fun e R' hR => ?_) (by first | trivial | simp [T.noSh, T.noShL, rat]) (fun _ => rfl) ?_
 ·simp -implicitDefEqProofs only [aR', go_sem]
 simp -implicitDefEqProofs only [eR', go_sem]
 refine q004.pure hd [] rfl Tryz.call31 (fun e R' hR => ?_) (by first | trivial | simp [T.noSh, T.noShL, rat]) (fun _ => rfl) ?_
 ·simp -implicitDefEqProofs only [aR', go_sem]
 simp -implicitDefEqProofs only [eR', go_sem, txtV, k10, q263, q264, List.length_append]
 refine ⟨by (try simp); omega, by (try simp); omega, ?_⟩
 have e := num3 (q25l g c.f ++ q25l g c.s) c.lo c.hi (unit g)
 rw [e, q22f, if_pos h]; rfl
end
theorem q25w (l m : List UInt8) (h : l.length + m.length <= 140737488355328) : Fun Tryz.prog 52 [.bld 79 5 (Lib.byteCells l)] [.own 1000000000, .t (txtV m)] fun o r => o = [.bld 79 5 (Lib.byteCells (l ++ m))] /\ r = .tup [.i (m.length : Int), .v .nilIface] := by
 have h := q25x (Lib.byteCells l) (txt m) (by rw [Lib.byteCells_length, q264]; exact h)
 rw [show Lib.strCells (txt m) = Lib.byteCells m from rfl, ← Lib.byteCells_append, q264] at h
 exact h
theorem q25r {g : Gm} {s : Int × List (List Int)} (h : strB g s = true) : ∀ p ∈ s.2, p ≠ [] := by
 obtain ⟨h1, h2, h3⟩ := q0tr h
 simp only [q0ft, Bool.and_eq_true, decide_eq_true_eq, List.all_eq_true, List.mem_range] at h3
 intro p hp hn
 subst hn
 obtain ⟨e, he, hee⟩ := List.mem_iff_getElem.1 hp
 have h4 := h3.2 e (by omega)
 have hg : s.2.getD e [] = [] := by rw [List.getD_eq_getElem?_getD, List.getElem?_eq_getElem he, hee]; rfl
 rw [hg] at h4
 simp [q0nt, sumI] at h4
section
attribute [-go_sem] q0i5 q0id fldC lenC idxC q0ip
theorem q23o (g : Gm) (s : Int × List (List Int)) (hg : q0cf g) (hs : q0q9 s.2) : Pure Tryz.prog 25 [q0ck g, q0tu s] (.tup [txtV (q25i g s).1, .i (q25i g s).2]) := by
 have hst := q17e g s hg hs
 simp only [q0ck, q0tu, nodes, rows] at hst
 refine q22r (by simp) ?_
 simp -implicitDefEqProofs only [eR', go_sem, q21d, q0ck, q0tu, nodes]
 unfold q25i
 cases hb : strB g s with
 | false =>
   rw [hb] at hst
   refine q006.p hst [] rfl Tryz.call50 ?_ ?_
   ·simp -implicitDefEqProofs only [aR', go_sem]
   simp -implicitDefEqProofs only [eR', go_sem, show (!false) = true from rfl]
   rfl
 | true =>
   rw [hb] at hst
   refine q006.p hst [] rfl Tryz.call50 ?_ ?_
   ·simp -implicitDefEqProofs only [aR', go_sem]
   simp -implicitDefEqProofs only [eR', go_sem, show (!true) = false from rfl]
   obtain ⟨hl, hp⟩ := q25q hb
   have hlen := q25j hb
   obtain ⟨p1, p2, p3, p4, p5⟩ := q0fn (q0tr hb).1
   obtain ⟨t1, t2, t3, t4⟩ := q0g0 p1
   have hsl := q0re g s.1 t1.2 p2.2
   have hsr := q0eo g s.1 t1.2 p2.2
   simp only [q0ck, nodes, rows] at hsr
   refine q006.res hsr [] rfl Tryz.call51 ?_ (.inl rfl) ?_
   ·simp -implicitDefEqProofs only [aR', go_sem]
   simp -implicitDefEqProofs only [cR', go_sem, q0qa]
   refine SemC.loopR (σ := Nat) (fun i => St.of [(3, .own 93), (6, .own 6), (16, .t (rows (sets g s.1))), (17, .t (.i (sets g s.1).length)), (18, .t (.i i))] [(93, .box [.i s.1, rows s.2]), (6, .bld 79 5 (Lib.byteCells (stTo g s i)))]) (fun i => i <= (sets g s.1).length) (fun i => (sets g s.1).length - i) 0 (Weak.trans (Weak.share 16 rfl) (Weak.of _ _ [some 3, some 6] (by simp) (by simp) ?_ ⟨⟨_, rfl, .refl _⟩, rfl, ⟨_, rfl, .refl _⟩, rfl, trivial⟩)) (by omega) fun i hi R hn hr he => ?_
   ·simp -implicitDefEqProofs only [wR', Nat.reduceBEq, Nat.reduceEqDiff, ↓reduceIte, q0rg, q16b]
   ·have hb200 := hlen i hi
    rcases Nat.lt_or_ge i (sets g s.1).length with h9 | h9
    ·obtain ⟨x, hx⟩ : ∃ x, (sets g s.1)[i]? = some x := ⟨_, List.getElem?_eq_getElem h9⟩
     obtain ⟨a, c, rfl, ha, hc⟩ := q24u hx
     obtain ⟨q, hq⟩ : ∃ q, s.2[i]? = some q := ⟨_, List.getElem?_eq_getElem (by omega)⟩
     obtain ⟨q1, q2⟩ := hp q (List.mem_of_getElem? hq)
     have hnx : stTo g s (i + 1) = stTo g s i ++ q242 [(a : Int), (c : Int)] q := by
      rw [q25k, show (sets g s.1).getD i [] = [(a : Int), (c : Int)] by rw [List.getD_eq_getElem?_getD, hx]; rfl, show s.2.getD i [] = q by rw [List.getD_eq_getElem?_getD, hq]; rfl]
     have hj1 := q23v [(a : Int), (c : Int)] 47 (by simp) (by simp) (fun x hx => by simp at hx; omega)
     have hj2 := q23v q 44 (q25r hb q (List.mem_of_getElem? hq)) (by omega) (fun x hx => by have := q2 x hx; omega)
     have l1 := q1lk (s := 47) [(a : Int), (c : Int)] (fun x hx => by simp at hx; omega)
     have l2 := q1lk (s := 44) q fun x hx => by have := q2 x hx; omega
     simp only [List.length_cons, List.length_nil] at l1
     have k47 : (⟨#[47]⟩ : ByteArray) = txt [47] := rfl
     have k44 : (⟨#[44]⟩ : ByteArray) = txt [44] := rfl
     have k58 : (⟨#[58]⟩ : ByteArray) = txt [58] := rfl
     have k10 : (⟨#[10]⟩ : ByteArray) = txt [10] := rfl
     have hw := q25w (stTo g s i) (q242 [(a : Int), (c : Int)] q) (by have := q244 (i := a) (c := c) (p := q) (by omega) (by omega) q1 q2; omega)
     rw [← hnx] at hw
     have hlt : q242 [(a : Int), (c : Int)] q = ((numT [47] [(a : Int), (c : Int)] ++ [58]) ++ numT [44] q) ++ [10] := by simp [q242]
     rw [hlt] at hw
     simp only [txtV] at hj1 hj2 hw
     simp -implicitDefEqProofs only [eR', go_sem, txtV, hx, hq, k47, k44, decide_eq_true (show (i : Int) < ((sets g s.1).length : Int) by omega)]
     refine ⟨by omega, by omega, by omega, ?_⟩
     refine q004.pure hj1 [] rfl Tryz.call26 (fun e R' hR => ?_) (by first | trivial | simp [T.noSh, T.noShL, rat]) (fun _ => rfl) ?_
     ·simp -implicitDefEqProofs only [aR', go_sem]
     simp -implicitDefEqProofs only [eR', go_sem, txtV, k47, k44, k58, k10, q263, q264, List.length_append, hq]
     refine ⟨by omega, by omega, by omega, by omega, ?_⟩
     refine q004.pure hj2 [] rfl Tryz.call26 (fun e R' hR => ?_) (by first | trivial | simp [T.noSh, T.noShL, rat]) (fun _ => rfl) ?_
     ·simp -implicitDefEqProofs only [aR', go_sem]
     simp -implicitDefEqProofs only [eR', go_sem, txtV, k47, k44, k58, k10, q263, q264, List.length_append]
     refine ⟨by (try simp); omega, by (try simp); omega, ?_⟩
     refine q002.ref hw [6] [] rfl Tryz.call52 (by simp) ?_ (by simp) (fun e R' hR => ?_) (.inl rfl) ?_
     ·simp -implicitDefEqProofs only [sR', Nat.reduceEqDiff, ↓reduceIte]
     ·simp -implicitDefEqProofs only [aR', go_sem]
     simp -implicitDefEqProofs only [cR', go_sem, txtV]
     refine ⟨?_, (q09v.refl _ _ _).upd _ (.inl (by simp))⟩
     refine hn _ (i + 1) (Weak.of _ _ [some 93, some 6] (by simp) (by simp) ?_ ⟨⟨_, rfl, .refl _⟩, rfl, ⟨_, rfl, .refl _⟩, rfl, trivial⟩) (by omega) (by omega)
     simp -implicitDefEqProofs only [wR', Nat.reduceBEq, Nat.reduceEqDiff, ↓reduceIte, q0lb h9 (by omega), txtV]
    ·simp -implicitDefEqProofs only [eR', go_sem, decide_eq_false (show ¬ (i : Int) < ((sets g s.1).length : Int) by omega)]
     refine he _ _ ?_
     have e : i = (sets g s.1).length := by omega
     subst e
     have hS := q25v (stTo g s (sets g s.1).length)
     simp only [txtV] at hS
     simp -implicitDefEqProofs only [eR', go_sem, q25l, txtV]
     refine q006.ref hS [6] [] rfl Tryz.call53 (by simp) ?_ (by simp) ?_ (.inl rfl) ?_
     ·simp -implicitDefEqProofs only [sR', Nat.reduceEqDiff, ↓reduceIte]
     ·simp -implicitDefEqProofs only [aR', go_sem]
     simp -implicitDefEqProofs only [cR', go_sem]
end
section
attribute [-go_sem] q0i5 q0id fldC lenC idxC q0ip
theorem q23l (g : Gm) (c : Cl) (hg : q0cf g) (hf : q0q9 c.f.2) (hs : q0q9 c.s.2) : FunG Tryz.prog powG 9 [] [.t (q0ck g), .t (q06g c)] fun o r => o = [] /\ r = .tup [txtV (q22f g c).1, .i (q22f g c).2] := by
 have hig := q0ee g hg
 have hpr := q23t g c hg hf hs
 have ht1 := q23o g c.f hg hf
 have ht2 := q23o g c.s hg hs
 simp only [q0ck, q06g, nodes, rows] at hpr hig
 simp only [q0ck, q0tu, nodes, rows] at ht1 ht2
 refine Fun.ofG powG (n := 44) (H := ⟨[], []⟩) (rv := [.tmp 4, .tmp 5]) (c := q21a) Tryz.func9 rfl rfl rfl (by kernel_rfl) (by simp) (by decide) ?_
 simp -implicitDefEqProofs only [eR', go_sem, q21a, q0ck, q06g, nodes]
 refine q006.p hig [] rfl Tryz.call23 ?_ ?_
 ·simp -implicitDefEqProofs only [aR', go_sem]
 simp -implicitDefEqProofs only [eR', go_sem]
 refine ⟨fun h => ?_, fun h => ?_⟩
 ·have h1 : q0fl g = false := by simpa using h
  have h2 : q22d g c = 1 := by unfold q22d; rw [h1]; rfl
  rw [q22f, h2]; rfl
 have h1 : q0fl g = true := by simpa using h
 refine q006.p hpr [] rfl Tryz.call24 ?_ ?_
 ·simp -implicitDefEqProofs only [aR', go_sem]
 simp -implicitDefEqProofs only [eR', go_sem]
 refine ⟨fun h => ?_, fun h => ?_⟩
 ·have h2 : prB g c = false := by simpa using h
  have h3 : q22d g c = 5 := by unfold q22d; rw [h1, h2]; rfl
  rw [q22f, h3]; rfl
 have a2 : prB g c = true := by simpa using h
 have a1 := h1
 have h := q22e.2 ⟨h1, a2⟩
 obtain ⟨b1, b2, b3, b4, b5⟩ := q24o.1 a2
 obtain ⟨f1, f2, _, _⟩ := q0np b1
 have ba := q01y f1
 have bb := q01y f2
 have hhi : -9223372036854775807 <= c.hi := by omega
 rw [q25i, if_pos f1] at ht1
 rw [q25i, if_pos f2] at ht2
 have l1 := q25m f1
 have l2 := q25m f2
 have hu := q269 a1
 have hun := q23w g a1
 simp only [q0ck, nodes, rows] at hun
 have hjn := q23u [c.lo, c.hi, unit g] 32 (by simp) (by simp) (fun x hx => by simp at hx; omega)
 have lj := q1lk (s := 32) [c.lo, c.hi, unit g] (fun x hx => by simp at hx; omega)
 simp only [List.length_cons, List.length_nil] at lj
 have k32 : (⟨#[32]⟩ : ByteArray) = txt [32] := rfl
 have k10 : (⟨#[10]⟩ : ByteArray) = txt [10] := rfl
 refine q006.p ht1 [] rfl Tryz.call25 ?_ ?_
 ·simp -implicitDefEqProofs only [aR', go_sem]
 simp -implicitDefEqProofs only [eR', go_sem, txtV]
 refine q006.p ht2 [] rfl Tryz.call25 ?_ ?_
 ·simp -implicitDefEqProofs only [aR', go_sem]
 simp -implicitDefEqProofs only [eR', go_sem, txtV, q263, q264, List.length_append]
 refine ⟨by (try simp); omega, ?_⟩
 refine q004.pure hun [] rfl Tryz.call27 (fun e R' hR => ?_) (by first | trivial | simp [T.noSh, T.noShL, rat]) (fun _ => rfl) ?_
 ·simp -implicitDefEqProofs only [aR', go_sem]
 simp -implicitDefEqProofs only [eR', go_sem, txtV, k32, k10, q263, q264, List.length_append]
 refine q004.pureG (args := [ints [c.lo, c.hi, unit g], txtV [32]]) hjn rfl [40] rfl Tryz.call26 (fun e R' hR => ?_) trivial (fun _ => rfl) ?_
 ·have hq40 := (hR 40).resolve_left (by simp -implicitDefEqProofs only [eR', go_sem, not_false_eq_true])
  simp -implicitDefEqProofs only [eR', go_sem] at hq40
  simp -implicitDefEqProofs only [aR', go_sem, hq40, txtV, T.toSh, T.toShL, List.map_cons, List.map_nil, T.i]
 simp -implicitDefEqProofs only [eR', go_sem, txtV, k10, q263, q264, List.length_append]
 refine ⟨by (try simp); omega, by (try simp); omega, ?_⟩
 rw [q22f, if_pos h]; rfl
end
section
attribute [-go_sem] q0i5 q0id fldC lenC idxC q0ip q0lp
theorem q250 (cs : List Int) (hc : q161 cs) (hl : cs.length <= 100000000000) : Fun Tryz.prog 5 [] [.t (bytes cs)] fun o r => ∃ x : Gm × (Int × List (List Int)) × (Int × List (List Int)), o = [] /\ r = dr3T x /\ okD3 x := by
 refine q233 (by simp) ?_
 simp -implicitDefEqProofs only [eR', go_sem, q21p]
 refine q006.res (q11z cs hc (by omega)) [] rfl Tryz.call16 ?_ (.inl rfl) ?_
 ·simp -implicitDefEqProofs only [aR', go_sem]
 simp -implicitDefEqProofs only [cR', go_sem, srcT]
 have hs0 := q11l (cs.take 64)
 generalize q0za (cs.take 64) = sd at hs0 ⊢
 have hp := q25c cs hc hl (0, sd) hs0
 simp only [dr3T] at hp
 refine q006.exi hp [6] [] rfl Tryz.call15 (by simp) ?_ (by simp) ?_ (.inl rfl) (fun x hx => ?_)
 ·simp -implicitDefEqProofs only [sR', Nat.reduceEqDiff, ↓reduceIte]
 ·simp -implicitDefEqProofs only [aR', go_sem]
 simp -implicitDefEqProofs only [cR', go_sem, opR, Nat.reduceBEq]
 exact ⟨x.1, rfl, hx.1⟩
theorem q24y (cs : List Int) (hc : q161 cs) (hl : cs.length <= 100000000000) : Fun Tryz.prog 8 [] [.t (bytes cs)] fun o r => ∃ x : Gm × Cl, o = [] /\ r = drCT x /\ (q11q x.1 /\ q17x x.2.f.2 /\ q17x x.2.s.2) := by
 refine q231 (by simp) ?_
 simp -implicitDefEqProofs only [eR', go_sem, q21n]
 refine q006.res (q11z cs hc (by omega)) [] rfl Tryz.call16 ?_ (.inl rfl) ?_
 ·simp -implicitDefEqProofs only [aR', go_sem]
 simp -implicitDefEqProofs only [cR', go_sem, srcT]
 have hs0 := q11l (cs.take 64)
 generalize q0za (cs.take 64) = sd at hs0 ⊢
 have hp := q25h cs hc hl (0, sd) hs0
 simp only [drCT] at hp
 refine q006.exi hp [5] [] rfl Tryz.call22 (by simp) ?_ (by simp) ?_ (.inl rfl) (fun x hx => ?_)
 ·simp -implicitDefEqProofs only [sR', Nat.reduceEqDiff, ↓reduceIte]
 ·simp -implicitDefEqProofs only [aR', go_sem]
 simp -implicitDefEqProofs only [cR', go_sem, opR, Nat.reduceBEq]
 exact ⟨x.1, rfl, hx.1, hx.2.1, hx.2.2.1⟩
theorem q24z (cs : List Int) (hc : q161 cs) (hl : cs.length <= 100000000000) : Fun Tryz.prog 11 [] [.t (bytes cs)] fun o r => ∃ x : Gm × Cl, o = [] /\ r = drCT x /\ (q11q x.1 /\ q17x x.2.f.2 /\ q17x x.2.s.2) := by
 refine q232 (by simp) ?_
 simp -implicitDefEqProofs only [eR', go_sem, q21o]
 refine q006.res (q11z cs hc (by omega)) [] rfl Tryz.call16 ?_ (.inl rfl) ?_
 ·simp -implicitDefEqProofs only [aR', go_sem]
 simp -implicitDefEqProofs only [cR', go_sem, srcT]
 have hs0 := q11l (cs.take 64)
 generalize q0za (cs.take 64) = sd at hs0 ⊢
 have hp := q25h cs hc hl (0, sd) hs0
 simp only [drCT] at hp
 refine q006.exi hp [5] [] rfl Tryz.call22 (by simp) ?_ (by simp) ?_ (.inl rfl) (fun x hx => ?_)
 ·simp -implicitDefEqProofs only [sR', Nat.reduceEqDiff, ↓reduceIte]
 ·simp -implicitDefEqProofs only [aR', go_sem]
 simp -implicitDefEqProofs only [cR', go_sem, opR, Nat.reduceBEq]
 exact ⟨x.1, rfl, hx.1, hx.2.1, hx.2.2.1⟩
end
theorem q247 {g : Gm} {s t : Int × List (List Int)} (h : (mcR g s t).2 = 0) : q0nn g s t = true /\ (mcR g s t).1 = ⟨s, t, -q01x g s, q01x g t⟩ := by
 unfold mcR at h ⊢
 split
 ·rename_i hp; exact ⟨hp, rfl⟩
 ·rename_i hp; rw [if_neg hp] at h; cases h
section
attribute [-go_sem] q0i5 q0id fldC lenC idxC q0ip q0lp
theorem q240 (cs : List Int) (hc : q161 cs) : FunG Tryz.prog powG 3 [] [.t (bytes cs)] fun o r => o = [] /\ r = .b true := by
 refine Fun.ofG powG (n := 129) (H := ⟨[], []⟩) (rv := [.tmp 2]) (c := q21k) Tryz.func3 rfl rfl rfl (by kernel_rfl) (by simp) (by decide) ?_
 simp -implicitDefEqProofs only [eR', go_sem, q21k]
 refine q006.p (q10g cs) [] rfl Tryz.call4 ?_ ?_
 ·simp -implicitDefEqProofs only [aR', go_sem]
 simp -implicitDefEqProofs only [eR', go_sem]
 refine ⟨fun _ => trivial, fun hbig => ?_⟩
 have hl : cs.length <= 4096 := by have : (cs.length : Int) <= 4096 := by simpa using hbig
                                   omega
 have hp := q250 cs hc (by omega)
 simp only [dr3T] at hp
 refine q006.exi hp [] [] rfl Tryz.call5 (by simp) ?_ (by simp) ?_ (.inl rfl) (fun x hx => ?_)
 ·simp -implicitDefEqProofs only [sR', Nat.reduceEqDiff, ↓reduceIte]
 ·simp -implicitDefEqProofs only [aR', go_sem]
 refine q103 (p := fun k => q00p _ _ _ _ _ (opsW _ _ _ k)) _ (fun kc hkc => ?_)
 simp -implicitDefEqProofs only [cR', go_sem, opR, Nat.reduceBEq]
 rw [← hkc]
 clear hkc
 simp -implicitDefEqProofs only [eR', go_sem, opR, Nat.reduceBEq]
 obtain ⟨g, s, t⟩ := x
 obtain ⟨h1, h2, h3⟩ := hx
 (try simp only [] at h1 h2 h3)
 (try simp only [])
 have hg := q11r h1
 have hr := q246 g s t (q24w h2) (q24w h3)
 have hq := q23n g s t hg (q24w h2) (q24w h3)
 simp only [q0ck, q0tu, nodes, rows, mcO, q0qa] at hq
 refine q006.res hq [] rfl Tryz.call6 ?_ (.inl rfl) ?_
 ·simp -implicitDefEqProofs only [aR', go_sem]
 refine q103 (p := fun k => q00p _ _ _ _ _ (opsW _ _ _ k)) _ (fun kc hkc => ?_)
 simp -implicitDefEqProofs only [cR', go_sem, opR, Nat.reduceBEq]
 rw [← hkc]
 clear hkc
 simp -implicitDefEqProofs only [eR', go_sem, opR, Nat.reduceBEq]
 have hq := q253 g s t hg (q24w h2) (q24w h3)
 have hL := fun h => q247 (g := g) (s := s) (t := t) h
 generalize hJ : mcR g s t = w at hr hq hL
 obtain ⟨j, code⟩ := w
 (try simp only [] at hr hL)
 (try simp only [])
 refine q006.weak (Weak.trans (Weak.share 3 rfl) (Weak.trans (Weak.share 6 rfl) (Weak.o [(0, .t (bytes cs)), (3, .t (.pin [.sh 5 (chunk q0lu g.nd), rows g.w, rows g.v] 0)), (6, .t (.pin [.i j.f.1, rows j.f.2, .i j.s.1, rows j.s.2, .i j.lo, .i j.hi] 0)), (7, .t (.i code)), (36, .t (.agg [.sh 5 (chunk q0lu g.nd), rows g.w, rows g.v])), (37, .t (.agg [.i s.1, rows s.2])), (38, .t (.agg [.i t.1, rows t.2])), (1000000, .t powG)] [] [] ?_ ?_))) ?_
 ·simp -implicitDefEqProofs only [wR', Nat.reduceBEq, Nat.reduceEqDiff, ↓reduceIte, q0rg, T.toSh, T.toShL, nodes, q0vg]
 ·exact trivial
 simp only [q0ck, q0tu, nodes, rows, mcO, q0qa] at hq
 refine q006.res hq [] rfl Tryz.call7 ?_ (.inl rfl) ?_
 ·simp -implicitDefEqProofs only [aR', go_sem]
 refine q103 (p := fun k => q00p _ _ _ _ _ (opsW _ _ _ k)) _ (fun kc hkc => ?_)
 simp -implicitDefEqProofs only [cR', go_sem, nodes, rows, opR, Nat.reduceBEq]
 rw [← hkc]
 clear hkc
 simp -implicitDefEqProofs only [eR', go_sem, nodes, opR, Nat.reduceBEq]
 refine q006.weak (Weak.trans (Weak.share 8 rfl) (Weak.o [(0, .t (bytes cs)), (3, .t (.pin [.sh 5 (chunk q0lu g.nd), rows g.w, rows g.v] 0)), (6, .t (.pin [.i j.f.1, rows j.f.2, .i j.s.1, rows j.s.2, .i j.lo, .i j.hi] 0)), (7, .t (.i code)), (8, .t (.pin [.i j.f.1, rows j.f.2, .i j.s.1, rows j.s.2, .i j.lo, .i j.hi] 0)), (9, .t (.i code)), (43, .t (bytes cs)), (1000000, .t powG)] [] [] ?_ ?_)) ?_
 ·simp -implicitDefEqProofs only [wR', Nat.reduceBEq, Nat.reduceEqDiff, ↓reduceIte, q0rg, T.toSh, T.toShL, nodes, q0vg]
 ·exact trivial
 have hp := q24y cs hc (by omega)
 simp only [drCT] at hp
 refine q006.exi hp [] [] rfl Tryz.call8 (by simp) ?_ (by simp) ?_ (.inl rfl) (fun x hx => ?_)
 ·simp -implicitDefEqProofs only [sR', Nat.reduceEqDiff, ↓reduceIte]
 ·simp -implicitDefEqProofs only [aR', go_sem]
 refine q103 (p := fun k => q00p _ _ _ _ _ (opsW _ _ _ k)) _ (fun kc hkc => ?_)
 simp -implicitDefEqProofs only [cR', go_sem, nodes, rows, opR, Nat.reduceBEq]
 rw [← hkc]
 clear hkc
 simp -implicitDefEqProofs only [eR', go_sem, nodes, opR, Nat.reduceBEq]
 obtain ⟨h, e⟩ := x
 obtain ⟨k1, k2, k3⟩ := hx
 (try simp only [] at k1 k2 k3)
 (try simp only [])
 have hqi := q23l h e (q11r k1) (q24v k2) (q24v k3)
 have hqs := q24x h e (q11r k1) (q24v k2) (q24v k3)
 generalize q22f h e = tx at hqi hqs
 obtain ⟨tx, cd⟩ := tx
 refine q006.pureG (args := [q0ck h, q06g e]) hqi rfl [] rfl Tryz.call9 ?_ ⟨trivial, trivial, trivial⟩ rfl ?_
 ·simp -implicitDefEqProofs only [aR', go_sem, q0ck, q06g, nodes]
 simp -implicitDefEqProofs only [eR', go_sem, nodes, txtV]
 simp only [q0ck, q06g, nodes, rows, txtV] at hqs
 refine q006.p hqs [] rfl Tryz.call10 ?_ ?_
 ·simp -implicitDefEqProofs only [aR', go_sem]
 simp -implicitDefEqProofs only [eR', go_sem, nodes, txtV]
 have hp := q24z cs hc (by omega)
 simp only [drCT] at hp
 refine q006.exi hp [] [] rfl Tryz.call11 (by simp) ?_ (by simp) ?_ (.inl rfl) (fun x hx => ?_)
 ·simp -implicitDefEqProofs only [sR', Nat.reduceEqDiff, ↓reduceIte]
 ·simp -implicitDefEqProofs only [aR', go_sem]
 refine q103 (p := fun k => q00p _ _ _ _ _ (opsW _ _ _ k)) _ (fun kc hkc => ?_)
 simp -implicitDefEqProofs only [cR', go_sem, nodes, rows, opR, Nat.reduceBEq]
 rw [← hkc]
 clear hkc
 simp -implicitDefEqProofs only [eR', go_sem, nodes, opR, Nat.reduceBEq]
 obtain ⟨k, d⟩ := x
 obtain ⟨i1, i2, i3⟩ := hx
 (try simp only [] at i1 i2 i3)
 (try simp only [])
 refine q004.pure (q241 j (q0qd hr.1) (q0qd hr.2)) [] rfl Tryz.call12 (fun e R' hR => ?_) (by first | trivial | simp [T.noSh, T.noShL, rat]) (fun _ => rfl) ?_
 ·simp -implicitDefEqProofs only [aR', go_sem]
 simp -implicitDefEqProofs only [eR', go_sem, nodes, not_true_eq_false, decide_false, bne_self_eq_false]
 have hqi := q23m k d (q11r i1) (q24v i2) (q24v i3)
 have hqs := q251 k d (q11r i1) (q24v i2) (q24v i3)
 simp only [q0ck, q06g, nodes, rows] at hqi hqs
 refine ⟨fun _ => ?_, fun hx => absurd hx (by simp)⟩
 refine q004.pure hqi [] rfl Tryz.call13 (fun e R' hR => ?_) (by first | trivial | simp [T.noSh, T.noShL, rat]) (fun _ => rfl) ?_
 ·simp -implicitDefEqProofs only [aR', go_sem]
 simp -implicitDefEqProofs only [eR', go_sem, nodes, bne_self_eq_false]
 refine q004.pure hqs [] rfl Tryz.call14 (fun e R' hR => ?_) (by first | trivial | simp [T.noSh, T.noShL, rat]) (fun _ => rfl) ?_
 ·simp -implicitDefEqProofs only [aR', go_sem]
 simp -implicitDefEqProofs only [eR', go_sem, nodes, bne_self_eq_false]
 refine ⟨fun _ => trivial, fun hcode => ?_⟩
 have hcode : code = 0 := by simpa using hcode
 obtain ⟨hp, hj⟩ := hL hcode
 obtain ⟨l1, l2, l3⟩ := q245 hp
 have q1 := q23m g ⟨s, t, -q01x g s, q01x g t⟩ hg (q24v h2) (q24v h3)
 have q2 := q23m g ⟨s, t, -q01x g s + 1, q01x g t⟩ hg (q24v h2) (q24v h3)
 have q3 := q23m g ⟨s, t, -q01x g s, q01x g t - 1⟩ hg (q24v h2) (q24v h3)
 simp only [q0ck, q06g, nodes, rows] at q1 q2 q3
 subst hj
 obtain ⟨f1, f2, _, _⟩ := q0np hp
 have ba := q01y f1
 have bb := q01y f2
 have e2 : IntKind.i64.wrap (-q01x g s + 1) = -q01x g s + 1 := wrap64 (by omega) (by omega)
 have e3 : IntKind.i64.wrap (q01x g t - 1) = q01x g t - 1 := wrap64 (by omega) (by omega)
 rw [l1] at q1
 rw [l2] at q2
 rw [l3] at q3
 (try simp only [e2, e3])
 refine q006.p q1 [] rfl Tryz.call13 ?_ ?_
 ·simp -implicitDefEqProofs only [aR', go_sem]
 simp -implicitDefEqProofs only [eR', go_sem, nodes, e2, e3]
 refine q006.p q2 [] rfl Tryz.call13 ?_ ?_
 ·simp -implicitDefEqProofs only [aR', go_sem]
 simp -implicitDefEqProofs only [eR', go_sem, nodes, e2, e3, Bool.not_false]
 refine q006.p q3 [] rfl Tryz.call13 ?_ ?_
 ·simp -implicitDefEqProofs only [aR', go_sem]
 simp -implicitDefEqProofs only [eR', go_sem, nodes, Bool.not_false]
end
end Go.Ab

namespace Go.Proofs.YtnnmgdngfofjlaaGreatDoor
open Go.ChangeShapes Go.WideShapes Go.ChangeAt Go.RowKit Go.Ab

namespace fnMadeClaims
theorem q24n {W : World} (h : laidMetH Tryz.prog Rows.fnMadeClaimsRow.laid W) : Rd W (Ob (fun _ => False) (fun _ => [])) powG undef := by
 have h := laidMetH.filter (fun x => x.1 == "internal/strconv.uint64pow10") h
 rw [MakeChecks.laidMetH_plain _ _ _ (by kernel_rfl)] at h
 have h : laidMet Tryz.prog [("internal/strconv.uint64pow10", Lib.tabData .u64 Lib.pow10Tab)] W := h
 have ht := Lib.tabIs_of_head (t := 138) (e := 126) (n := 20) Tryz.laysM173.m17 (by kernel_rfl) (by kernel_rfl) (by kernel_rfl) (by kernel_rfl) (by kernel_rfl) h
 unfold Lib.TabIs World.var? at ht
 rw [Tryz.laysM173.m17] at ht
 simp only [Option.bind_some] at ht
 split at ht
 ·rename_i cs e fz hb
  cases ht
  exact .glob _ _ _ e fz Ob.none hb
 ·cases ht
theorem said : ∀ xs, wtL [q168] xs -> FunG Tryz.prog powG 3 [] (xs.map A.t) fun o r => o = [] /\ r = .b true
 | [x], h => by
   obtain ⟨cs, rfl, _, hc⟩ := q169 h.1
   exact q240 cs hc
 | [], h => h.elim
 | _ :: _ :: _, h => h.2.elim

set_option maxRecDepth 100000 in
theorem lifted (os : Os) (started : os.Started) (H : Type) (enc : TypeId × Value -> H) :
  ReturnsInHanded {} Tryz.checked os 3 .any (fun w args => (Rows.fnMadeClaimsSpec.pre enc Tryz.prog Tryz.f3 [] false w args /\ laidMetH Tryz.prog Rows.fnMadeClaimsRow.laid w) /\ sizedMet enc Tryz.prog Tryz.f3 (OpenSpec.ofChange Rows.fnMadeClaimsSpec) false w args) (Rows.fnMadeClaimsSpec.post enc Tryz.prog Tryz.f3 false true false false) := by
 refine returnsInHanded_of_change_and (C := Tryz.checked) (X := fun w _ => laidMetH Tryz.prog Rows.fnMadeClaimsRow.laid w) (fun _ _ _ hh h => h.of_heap hh) (by kernel_rfl) started (by kernel_rfl) Tryz.func3
  (ChangeSpec.witness_shaped (enc := enc) (C := Tryz.checked) (X := fun w _ => laidMetH Tryz.prog Rows.fnMadeClaimsRow.laid w) false (World.laidAll Tryz.prog os Rows.fnMadeClaimsRow.laid) #[.slice none 0 0] 8 (World.laidAll_os _ _ _) (World.shaped_of_ZipB (by kernel_rfl) (by kernel_rfl)) (by kernel_rfl) (by kernel_rfl) (by kernel_rfl)
   (by rw [MakeChecks.laidMetH_plain _ _ _ (by kernel_rfl)]; exact laidMet_laidAll _ (by kernel_rfl) (by kernel_rfl))) ?_
 intro W base args ds gs before hval hW _ _ hL _
 refine q23z (tys := [q168]) (by kernel_rfl) (by kernel_rfl) rfl (by kernel_rfl) rfl (fun ds h => ?_) said W base args ds gs before hval hW (q24n hL)
 match ds, h with
 | [d0], _ => rfl

theorem andT {a b : Bool} (ha : a = true) (hb : b = true) : (a && b) = true := by rw [ha, hb]; rfl
theorem q0g8 : ((Rows.fnMadeClaimsRow.wf (OpenSpec.ofChange Rows.fnMadeClaimsSpec))) = true := by kernel_rfl
theorem q0g9 : (laidOutB Tryz.prog) = true := Tryz.laidOutT
theorem q0gk : (mapsRowed Tryz.prog) = true := Tryz.mapsRowedT
theorem q0gv : (Tryz.f3.params.all (Tryz.prog.readableRec ·)) = true := by kernel_rfl
theorem q0gy : (namedTie Tryz.prog Rows.fnMadeClaimsRow.named Rows.fnMadeClaimsSpec.vars) = true := by kernel_rfl
theorem q0gz : ((Rows.fnMadeClaimsRow.stops == [])) = true := by kernel_rfl
theorem q0h0 : ((Tryz.prog.stops == [])) = true := by kernel_rfl
theorem q0h1 : ((Rows.fnMadeClaimsRow.knobs == [])) = true := by kernel_rfl
theorem q0h2 : ((Tryz.prog.stopKnobs == [])) = true := by kernel_rfl
theorem q0h3 : ((Rows.fnMadeClaimsRow.inPlace == Tryz.prog.inPlace 3)) = true := by kernel_rfl
theorem q0ga : ((Rows.fnMadeClaimsRow.unfollowed == Tryz.prog.unfollowed 3)) = true := by kernel_rfl
theorem q0gb : ((Rows.fnMadeClaimsRow.recurses == Tryz.prog.recurses 3)) = true := by kernel_rfl
theorem q0gc : ((Rows.fnMadeClaimsRow.named == Tryz.prog.varsNamed 3)) = true := by kernel_rfl
theorem q0gd : ((Rows.fnMadeClaimsRow.maps == (Tryz.f3.params.toList ++ Rows.fnMadeClaimsSpec.plain.varTypes Tryz.prog).any (Tryz.prog.mapsRec ·))) = true := by kernel_rfl
theorem q0ge : ((Rows.fnMadeClaimsRow.ifaces == (Tryz.f3.params.toList ++ Rows.fnMadeClaimsSpec.plain.varTypes Tryz.prog).any (Tryz.prog.ifacesRec ·))) = true := by kernel_rfl
theorem q0gf : ((Rows.fnMadeClaimsRow.mapsOut == Tryz.prog.mapsAmong Tryz.f3.resultTypes.toList)) = true := by kernel_rfl
theorem q0gg : ((Rows.fnMadeClaimsRow.loops == (Tryz.f3.params.toList ++ Rows.fnMadeClaimsSpec.plain.varTypes Tryz.prog).any (Tryz.prog.loopsFrom ·))) = true := by kernel_rfl
theorem q0gh : ((Rows.fnMadeClaimsRow.wideKeys == (Tryz.f3.params.toList ++ Rows.fnMadeClaimsSpec.plain.varTypes Tryz.prog ++ Tryz.f3.resultTypes.toList).any (Tryz.prog.wideKeysFrom ·))) = true := by kernel_rfl
theorem q0gi : (Rows.fnMadeClaimsSpec.vars.all (Tryz.prog.varReadable ·)) = true := by kernel_rfl
theorem q0gj : (Tryz.f3.resultTypes.all (fun t => Tryz.prog.readableRec t && decide (t < Tryz.prog.types.size))) = true := by kernel_rfl
theorem q0gl : ((Rows.fnMadeClaimsRow.ifacesOut == Tryz.f3.resultTypes.toList.any (Tryz.prog.ifacesRec ·))) = true := by kernel_rfl
theorem q0gm : ((Rows.fnMadeClaimsRow.loopsOut == Tryz.f3.resultTypes.toList.any (Tryz.prog.loopsFrom ·))) = true := by kernel_rfl
theorem q0gn : ((Rows.fnMadeClaimsRow.plainKeys == Tryz.prog.plainKeys)) = true := by kernel_rfl
theorem q0go : (Rows.fnMadeClaimsRow.shortTexts.isNone) = true := by kernel_rfl
theorem q0gp : (Tryz.prog.stopsHeard) = true := Tryz.heardT
theorem q0gq : (Tryz.prog.mayEnter) = true := Tryz.mayEnterT
theorem q0gr : ((Rows.fnMadeClaimsRow.lifted == Tryz.prog.liftsFinal)) = true := (by rw [Tryz.liftsF]; rfl)
theorem q0gs : ((Tryz.prog.make == some Rows.fnMadeClaimsRow.make)) = true := (by rw [Tryz.makeC]; rfl)
theorem q0gt : ((Rows.fnMadeClaimsRow.kinds == (if Rows.fnMadeClaimsRow.domain.isEmpty then [] else Tryz.f3.params.toList.map fun t => match Tryz.prog.underlying t with | some (.int k) => some k | _ => none))) = true := by kernel_rfl
theorem q0gu : ((Rows.fnMadeClaimsRow.pinned == Rows.fnMadeClaimsRow.pinnedBy)) = true := by kernel_rfl
theorem q0gw : ((Rows.fnMadeClaimsRow.veiled == (Tryz.f3.params.toList ++ Rows.fnMadeClaimsSpec.plain.varTypes Tryz.prog ++ Tryz.f3.resultTypes.toList).any (Tryz.prog.veiledRec ·))) = true := by kernel_rfl
theorem q0gx : (Rows.fnMadeClaimsRow.veiledFits Tryz.prog Tryz.f3.params.toList (Tryz.f3.params.toList ++ Rows.fnMadeClaimsSpec.plain.varTypes Tryz.prog ++ Tryz.f3.resultTypes.toList)) = true := by kernel_rfl
set_option maxRecDepth 100000 in
theorem joined : joinedFacts Tryz.prog 3 Tryz.f3 Rows.fnMadeClaimsSpec Rows.fnMadeClaimsRow = true := by
 unfold joinedFacts
 exact andT (andT (andT (andT (andT (andT (andT (andT (andT (andT (andT (andT (andT (andT (andT (andT (andT (andT (andT (andT (andT (andT (andT (andT (andT (andT (andT (andT (andT (andT (andT (q0g8) q0g9) q0gk) q0gv) q0gy) q0gz) q0h0) q0h1) q0h2) q0h3) q0ga) q0gb) q0gc) q0gd) q0ge) q0gf) q0gg) q0gh) q0gi) q0gj) q0gl) q0gm) q0gn) q0go) q0gp) q0gq) q0gr) q0gs) q0gt) q0gu) q0gw) q0gx
theorem over : Rows.fnMadeClaimsRow.holds Tryz.pinned (OpenSpec.ofChange Rows.fnMadeClaimsSpec) :=
 OpenClaim.holds_of_wide 3 Tryz.f3 rfl rfl rfl rfl rfl rfl rfl ⟨rfl, rfl, rfl, rfl, rfl⟩ rfl rfl rfl rfl rfl (by kernel_rfl) Tryz.func3 joined
  (of_decide_eq_true (by kernel_rfl)) (by unfold Func.isWrapper; first | (rw [if_pos (by decide +kernel)]; kernel_rfl) | (rw [if_neg (by decide +kernel)]; exact ⟨rfl, rfl⟩))
  (fun os started H enc _ => lifted os started H enc)
end fnMadeClaims

theorem fnMadeClaims_holds : Rows.FnMadeClaimsCardSaid :=
 Claim7.holds_tied_plain_at .later [] [.data, .data, .data] true Rows.fnMadeClaimsCard.stood.harness false fnMadeClaims.over (fun _ h => by cases h) (by kernel_rfl) (fun _ h => by cases h) fnMadeClaims_row_tie rfl ⟨rfl, rfl⟩ (by kernel_rfl) rfl
  (fun f fn hf hfn => by
   obtain rfl : f = 3 := (Option.some.inj ((show Tryz.prog.funcNamed "loop.example/g00910/laws.FnMadeClaims" = some 3 by kernel_rfl).symm.trans hf)).symm
   obtain rfl : fn = Tryz.f3 := (Option.some.inj (Tryz.func3.symm.trans hfn)).symm
   exact ⟨by kernel_rfl, fun j t ht => by
    have hm : t ∈ Tryz.f3.params.toList := by simpa using Array.mem_of_getElem? ht
    have hall : (Tryz.f3.params.toList.all fun u => !Tryz.prog.wantsStandIn u) = true := by kernel_rfl
    exact (show Tryz.prog.wantsStandIn t = false by simpa using List.all_eq_true.1 hall t hm)⟩)
  (by kernel_rfl)
#print axioms fnMadeClaims_holds
end Go.Proofs.YtnnmgdngfofjlaaGreatDoor

