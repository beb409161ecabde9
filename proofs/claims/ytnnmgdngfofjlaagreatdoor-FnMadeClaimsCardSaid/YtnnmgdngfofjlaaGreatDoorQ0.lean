/- The abstract layer, part 1: data trees, when a value in memory reads as a tree, what is kept when memory changes. -/
import Derived.WalkKit
import Derived.WalkLawsBesides
import Derived.RangeFuncRecord
import Derived.RangeFuncCalls
import Derived.OrdersIn
set_option linter.unusedSimpArgs false
set_option linter.unusedVariables false
set_option maxRecDepth 20000
namespace Go.Ab

inductive T where
 | any
 | v (x : Value)
 | sh (s : Nat) (l : List T)
 | arr (s : Nat) (l : List T)
 | box (l : List T)
 | pin (l : List T) (off : Nat)
 | fn (f : Nat) (cap : List T)
 | agg (l : List T)
 | tup (l : List T)
 | glob (b : Nat) (vs : List Value)
 | bld (ty e : TypeId) (bs : List Value)

abbrev T.i (n : Int) : T := .v (.int .i64 n)
abbrev T.b (b : Bool) : T := .v (.bool b)

inductive Rd (w : World) (O : Nat -> Prop) : T -> Value -> Prop
 | any (x : Value) : Rd w O .any x
 | v (x : Value) : Rd w O (.v x) x
 | shNil (s : Nat) : Rd w O (.sh s []) (.slice none 0 0)
 | shZ (s : Nat) (ad : Addr) (cap : Nat) : Rd w O (.sh s []) (.slice (some ad) 0 cap)
 | sh (s : Nat) (l : List T) (b off len cap : Nat) (cs : Array Value) (e : TypeId) (fz : Nat × Nat) (hO : ¬ O b) (hb : w.heap[b]? = some (.cells cs e fz))
   (hsz : off + l.length <= cs.size) (hl : l.length = len * s) (hc : len <= cap) (hr : ∀ i (h : i < l.length), Rd w O l[i] (cs.getD (off + i) undef)) :
   Rd w O (.sh s l) (.slice (some ⟨b, off, none⟩) len cap)
 | pin (l : List T) (off b o : Nat) (cs : Array Value) (e : TypeId) (fz : Nat × Nat) (hO : ¬ O b) (hb : w.heap[b]? = some (.cells cs e fz))
   (hsz : o + l.length <= cs.size) (hr : ∀ i (h : i < l.length), Rd w O l[i] (cs.getD (o + i) undef)) :
   Rd w O (.pin l off) (.pointer (some ⟨b, o + off, none⟩))
 | fn (f : Nat) (cap : List T) (vs : List Value) (hl : vs.length = cap.length) (hr : ∀ i (h : i < cap.length), Rd w O cap[i] (vs.getD i undef)) :
   Rd w O (.fn f cap) (.func (.func f) #[] vs.toArray)
 | agg (l : List T) (vs : List Value) (hl : vs.length = l.length) (hr : ∀ i (h : i < l.length), Rd w O l[i] (vs.getD i undef)) : Rd w O (.agg l) (.agg vs.toArray)
 | tup (l : List T) (vs : List Value) (hl : vs.length = l.length) (hr : ∀ i (h : i < l.length), Rd w O l[i] (vs.getD i undef)) : Rd w O (.tup l) (.tuple vs.toArray)
 | glob (b : Nat) (vs : List Value) (x : Value) (e : TypeId) (fz : Nat × Nat) (hO : ¬ O b) (hb : w.heap[b]? = some (.cells vs.toArray e fz)) : Rd w O (.glob b vs) x

def q20y (w : World) (e : TypeId) (bs : List Value) (v : Value) (g : List Nat) : Prop :=
 (v = .slice none 0 0 /\ bs = [] /\ g = []) ∨ ∃ k cap cur, v = .slice (some ⟨k, 0, none⟩) bs.length cap /\ g = [k] /\ w.heap[k]? = some (.cells cur e (0, 0)) /\ bs.length <= cap /\ cap <= maxLen /\ cur.size = cap /\ cur.toList.take bs.length = bs /\ bs ≠ []
theorem q20y.lt {w : World} {e : TypeId} {bs : List Value} {v : Value} {g : List Nat} (h : q20y w e bs v g) : ∀ b ∈ g, ∃ cs e fz, w.heap[b]? = some (.cells cs e fz) := by
 rcases h with ⟨_, _, rfl⟩ | ⟨k, cap, cur, _, rfl, hk, _⟩
 ·simp
 ·intro b hb
  have : b = k := by simpa using hb
  subst this; exact ⟨_, _, _, hk⟩
theorem q20y.mono {w w' : World} {e : TypeId} {bs : List Value} {v : Value} {g : List Nat} (h : q20y w e bs v g) (hf : ∀ b cs e fz, b ∈ g -> w.heap[b]? = some (.cells cs e fz) -> w'.heap[b]? = some (.cells cs e fz)) : q20y w' e bs v g := by
 rcases h with h | ⟨k, cap, cur, h1, h2, h3, h4⟩
 ·exact .inl h
 ·exact .inr ⟨k, cap, cur, h1, h2, hf k _ _ _ (by rw [h2]; simp) h3, h4⟩

inductive Ow (w : World) (O : Nat -> Prop) : T -> Value -> List Nat -> Prop
 | rd {t : T} {x : Value} (h : Rd w O t x) : Ow w O t x []
 | arrNil (s : Nat) : Ow w O (.arr s []) (.slice none 0 0) []
 | arr (s : Nat) (l : List T) (b len cap : Nat) (cs : Array Value) (e : TypeId) (fps : List (List Nat)) (hb : w.heap[b]? = some (.cells cs e (0, 0)))
   (hl : l.length = len * s) (hc : len <= cap) (hm : cap <= maxLen) (hsz : cs.size = cap * s) (hf : fps.length = l.length)
   (hr : ∀ i (h : i < l.length), Ow w O l[i] (cs.getD i undef) (fps.getD i [])) : Ow w O (.arr s l) (.slice (some ⟨b, 0, none⟩) len cap) (b :: fps.flatten)
 | box (l : List T) (b : Nat) (cs : Array Value) (e : TypeId) (fps : List (List Nat)) (hb : w.heap[b]? = some (.cells cs e (0, 0)))
   (hl : l.length = cs.size) (hf : fps.length = l.length)
   (hr : ∀ i (h : i < l.length), Ow w O l[i] (cs.getD i undef) (fps.getD i [])) : Ow w O (.box l) (.pointer (some ⟨b, 0, none⟩)) (b :: fps.flatten)
 | agg (l : List T) (vs : List Value) (fps : List (List Nat)) (hl : vs.length = l.length) (hf : fps.length = l.length)
   (hr : ∀ i (h : i < l.length), Ow w O l[i] (vs.getD i undef) (fps.getD i [])) : Ow w O (.agg l) (.agg vs.toArray) fps.flatten
 | tup (l : List T) (vs : List Value) (fps : List (List Nat)) (hl : vs.length = l.length) (hf : fps.length = l.length)
   (hr : ∀ i (h : i < l.length), Ow w O l[i] (vs.getD i undef) (fps.getD i [])) : Ow w O (.tup l) (.tuple vs.toArray) fps.flatten
 | bld (ty e : TypeId) (bs : List Value) (b : Nat) (p v : Value) (g : List Nat) (hp : p = .pointer none ∨ p = .pointer (some ⟨b, 0, none⟩)) (hb : w.heap[b]? = some (.cells #[p, v] ty (0, 0)))
   (hv : q20y w e bs v g) : Ow w O (.bld ty e bs) (.pointer (some ⟨b, 0, none⟩)) (b :: g)

def q009 (p : Nat -> Prop) (w w' : World) : Prop := ∀ b cs e fz, p b -> w.heap[b]? = some (.cells cs e fz) -> w'.heap[b]? = some (.cells cs e fz)

theorem Rd.mono {w w' : World} {O O' : Nat -> Prop} {t : T} {x : Value} (h : Rd w O t x) (hk : q009 (fun b => ¬ O b) w w')
  (hO : ∀ b, ¬ O b -> b < w.heap.size -> ¬ O' b) : Rd w' O' t x := by
 induction h with
 | any x => exact .any x
 | v x => exact .v x
 | shNil s => exact .shNil s
 | shZ s ad cap => exact .shZ s ad cap
 | sh s l b off len cap cs e fz hn hb hsz hl hc hr ih =>
   exact .sh s l b off len cap cs e fz (hO b hn (Array.getElem?_eq_some_iff.1 hb).1) (hk b cs e fz hn hb) hsz hl hc ih
 | pin l off b o cs e fz hn hb hsz hr ih =>
   exact .pin l off b o cs e fz (hO b hn (Array.getElem?_eq_some_iff.1 hb).1) (hk b cs e fz hn hb) hsz ih
 | fn f cap vs hl hr ih => exact .fn f cap vs hl ih
 | agg l vs hl hr ih => exact .agg l vs hl ih
 | tup l vs hl hr ih => exact .tup l vs hl ih
 | glob b vs x e fz hn hb => exact .glob b vs x e fz (hO b hn (Array.getElem?_eq_some_iff.1 hb).1) (hk b _ _ _ hn hb)

theorem q0k4 {fps : List (List Nat)} {i b : Nat} (h : b ∈ fps.getD i []) : b ∈ fps.flatten := by
 rw [List.getD_eq_getElem?_getD] at h
 cases hi : fps[i]? with
 | none => rw [hi] at h; simp at h
 | some f => rw [hi] at h; exact List.mem_flatten.2 ⟨f, List.mem_of_getElem? hi, h⟩

theorem Ow.mono {w w' : World} {O O' : Nat -> Prop} {t : T} {x : Value} {fp : List Nat} (h : Ow w O t x fp) (hk : q009 (fun b => ¬ O b) w w')
  (hO : ∀ b, ¬ O b -> b < w.heap.size -> ¬ O' b) (hf : q009 (fun b => b ∈ fp) w w') : Ow w' O' t x fp := by
 induction h with
 | rd h => exact .rd (h.mono hk hO)
 | arrNil s => exact .arrNil s
 | arr s l b len cap cs e fps hb hl hc hm hsz hfl hr ih =>
   exact .arr s l b len cap cs e fps (hf b cs e _ (by simp) hb) hl hc hm hsz hfl fun i h => ih i h fun b' cs' e' fz' hm hb' => hf b' cs' e' fz' (List.mem_cons_of_mem _ (q0k4 hm)) hb'
 | box l b cs e fps hb hl hfl hr ih =>
   exact .box l b cs e fps (hf b cs e _ (by simp) hb) hl hfl fun i h => ih i h fun b' cs' e' fz' hm hb' => hf b' cs' e' fz' (List.mem_cons_of_mem _ (q0k4 hm)) hb'
 | agg l vs fps hl hfl hr ih =>
   exact .agg l vs fps hl hfl fun i h => ih i h fun b' cs' e' fz' hm hb' => hf b' cs' e' fz' (q0k4 hm) hb'
 | tup l vs fps hl hfl hr ih =>
   exact .tup l vs fps hl hfl fun i h => ih i h fun b' cs' e' fz' hm hb' => hf b' cs' e' fz' (q0k4 hm) hb'
 | bld ty e bs b p v g hp hb hv => exact .bld ty e bs b p v g hp (hf b _ _ _ (by simp) hb) (hv.mono fun b' cs' e' fz' hm hb' => hf b' cs' e' fz' (List.mem_cons_of_mem _ hm) hb')

theorem Ow.lt {w : World} {O : Nat -> Prop} {t : T} {x : Value} {fp : List Nat} (h : Ow w O t x fp) : ∀ b ∈ fp, b < w.heap.size := by
 induction h with
 | rd h => simp
 | arrNil s => simp
 | arr s l b len cap cs e fps hb hl hc hm hsz hfl hr ih =>
   intro b' hb'
   rcases List.mem_cons.1 hb' with rfl | h'
   ·exact (Array.getElem?_eq_some_iff.1 hb).1
   ·obtain ⟨f, hf, hbf⟩ := List.mem_flatten.1 h'
    obtain ⟨i, hi, rfl⟩ := List.mem_iff_getElem.1 hf
    exact ih i (by omega) b' (by rw [List.getD_eq_getElem?_getD, List.getElem?_eq_getElem hi]; exact hbf)
 | box l b cs e fps hb hl hfl hr ih =>
   intro b' hb'
   rcases List.mem_cons.1 hb' with rfl | h'
   ·exact (Array.getElem?_eq_some_iff.1 hb).1
   ·obtain ⟨f, hf, hbf⟩ := List.mem_flatten.1 h'
    obtain ⟨i, hi, rfl⟩ := List.mem_iff_getElem.1 hf
    exact ih i (by omega) b' (by rw [List.getD_eq_getElem?_getD, List.getElem?_eq_getElem hi]; exact hbf)
 | agg l vs fps hl hfl hr ih =>
   intro b' h'
   obtain ⟨f, hf, hbf⟩ := List.mem_flatten.1 h'
   obtain ⟨i, hi, rfl⟩ := List.mem_iff_getElem.1 hf
   exact ih i (by omega) b' (by rw [List.getD_eq_getElem?_getD, List.getElem?_eq_getElem hi]; exact hbf)
 | tup l vs fps hl hfl hr ih =>
   intro b' h'
   obtain ⟨f, hf, hbf⟩ := List.mem_flatten.1 h'
   obtain ⟨i, hi, rfl⟩ := List.mem_iff_getElem.1 hf
   exact ih i (by omega) b' (by rw [List.getD_eq_getElem?_getD, List.getElem?_eq_getElem hi]; exact hbf)
 | bld ty e bs b p v g hp hb hv =>
   intro b' hb'
   rcases List.mem_cons.1 hb' with rfl | h'
   ·exact (Array.getElem?_eq_some_iff.1 hb).1
   ·obtain ⟨_, _, _, h⟩ := hv.lt b' h'
    exact (Array.getElem?_eq_some_iff.1 h).1

inductive A where
 | t (x : T)
 | own (r : Nat)
 | sub (r off len : Nat)
 | ptr (r off : Nat)
 | agg (l : List A)
 | tup (l : List A)
 | fn (f : Nat) (cap : List A)

abbrev A.v (x : Value) : A := .t (.v x)
abbrev A.i (n : Int) : A := .t (.v (.int .i64 n))
inductive Is (w : World) (O : Nat -> Prop) (hs : Nat -> Option Value) : A -> Value -> Prop
 | t {x : T} {y : Value} (h : Rd w O x y) : Is w O hs (.t x) y
 | own {r : Nat} {h : Value} (hr : hs r = some h) : Is w O hs (.own r) h
 | sub {r off len b n cap c : Nat} (hr : hs r = some (.slice (some ⟨b, 0, none⟩) n cap)) (hc : len <= c) : Is w O hs (.sub r off len) (.slice (some ⟨b, off, none⟩) len c)
 | subZ {r off b n cap c : Nat} (hr : hs r = some (.slice (some ⟨b, 0, none⟩) n cap)) : Is w O hs (.sub r off 0) (.slice (some ⟨b, 0, none⟩) 0 c)
 | subNil {r : Nat} (hr : hs r = some (.slice none 0 0)) : Is w O hs (.sub r 0 0) (.slice none 0 0)
 | ptrS {r off b n cap : Nat} (hr : hs r = some (.slice (some ⟨b, 0, none⟩) n cap)) : Is w O hs (.ptr r off) (.pointer (some ⟨b, off, none⟩))
 | ptrP {r off b : Nat} (hr : hs r = some (.pointer (some ⟨b, 0, none⟩))) : Is w O hs (.ptr r off) (.pointer (some ⟨b, off, none⟩))
 | agg {l : List A} {vs : List Value} (hl : vs.length = l.length) (hr : ∀ i (h : i < l.length), Is w O hs l[i] (vs.getD i undef)) : Is w O hs (.agg l) (.agg vs.toArray)
 | tup {l : List A} {vs : List Value} (hl : vs.length = l.length) (hr : ∀ i (h : i < l.length), Is w O hs l[i] (vs.getD i undef)) : Is w O hs (.tup l) (.tuple vs.toArray)
 | fn {f : Nat} {cap : List A} {vs : List Value} (hl : vs.length = cap.length) (hr : ∀ i (h : i < cap.length), Is w O hs cap[i] (vs.getD i undef)) :
   Is w O hs (.fn f cap) (.func (.func f) #[] vs.toArray)

theorem Is.mono {w w' : World} {O O' : Nat -> Prop} {hs hs' : Nat -> Option Value} {a : A} {x : Value} (h : Is w O hs a x) (hk : q009 (fun b => ¬ O b) w w')
  (hO : ∀ b, ¬ O b -> b < w.heap.size -> ¬ O' b) (hh : ∀ r h, hs r = some h -> hs' r = some h) : Is w' O' hs' a x := by
 induction h with
 | t h => exact .t (h.mono hk hO)
 | own hr => exact .own (hh _ _ hr)
 | sub hr hc => exact .sub (hh _ _ hr) hc
 | subZ hr => exact .subZ (hh _ _ hr)
 | subNil hr => exact .subNil (hh _ _ hr)
 | ptrS hr => exact .ptrS (hh _ _ hr)
 | ptrP hr => exact .ptrP (hh _ _ hr)
 | agg hl _ ih => exact .agg hl ih
 | tup hl _ ih => exact .tup hl ih
 | fn hl _ ih => exact .fn hl ih

inductive Root where
 | free
 | dead
 | live (t : T) (lk : List (Nat × Nat))

structure St where
 env : Nat -> A
 roots : Nat -> Root

def upd {α : Type} (f : Nat -> α) (d : Nat) (a : α) : Nat -> α := fun i => if i = d then a else f i
theorem q0x0 {α : Type} (f : Nat -> α) (d : Nat) (a : α) (i : Nat) : upd f d a i = if i = d then a else f i := rfl
theorem q0x2 {α : Type} (f : Nat -> α) (d : Nat) (a : α) : upd f d a d = a := by simp [upd]
theorem q0x1 {α : Type} (f : Nat -> α) (d : Nat) (a : α) (i : Nat) (h : i ≠ d) : upd f d a i = f i := by simp [upd, h]

def St.put (S : St) (d : Option Nat) (a : A) : St :=
 match d with
 | some d => { S with env := upd S.env d a }
 | none => S

def cellOf (w : World) (h : Value) (k : Nat) : Option Value :=
 match h with
 | .slice (some a) _ _ => w.cell? ⟨a.block, a.off + k, none⟩
 | .pointer (some a) => w.cell? ⟨a.block, a.off + k, none⟩
 | _ => none

def q00d (w : World) (O : Nat -> Prop) (hs : Nat -> Option Value) (r : Root) (h : Option Value) (fp : List Nat) : Prop :=
 match r with
 | .free => h = none /\ fp = []
 | .dead => fp = []
 | .live t lk => ∃ x, h = some x /\ Ow w O t x fp /\ ∀ p ∈ lk, ∃ y, cellOf w x p.1 = some y /\ hs p.2 = some y

def Ob (X : Nat -> Prop) (fp : Nat -> List Nat) : Nat -> Prop := fun b => X b ∨ ∃ r, b ∈ fp r

structure Fr where
 own : Nat -> Prop
 hd : Nat -> Option Value
 mkp : Prop
instance : CoeFun Fr (fun _ => Nat -> Prop) := ⟨Fr.own⟩

structure Hist (w0 : World) (O0 : Fr) (w : World) : Prop where
 os : w.os = w0.os
 tape : w.tape = w0.tape
 output : w.output = w0.output
 size : w0.heap.size <= w.heap.size
 block : ∀ b, b < w0.heap.size -> ¬ O0 b -> w.heap[b]? = w0.heap[b]?

def T.rooty : T -> Bool
 | .arr _ _ | .box _ | .bld _ _ _ => true
 | _ => false

def q00a (ok : Prop) (O : Nat -> Prop) (ds : List Deferred) (w0 w : World) : Prop := ∃ Ds : List Nat, Ds.Nodup /\ ds = Ds.map (fun D => { target := .collected D, args := #[] }) /\ (∀ D ∈ Ds, (w0.heap.size <= D ∨ O D) /\ w.heap[D]? = some (.deferred (some []))) /\ (¬ ok -> Ds = [])
theorem q00a.nil (ok : Prop) (O : Nat -> Prop) (w0 w : World) : q00a ok O [] w0 w := ⟨[], by simp, rfl, by simp, fun _ => rfl⟩
theorem q00a.keep {ok : Prop} {O : Nat -> Prop} {ds : List Deferred} {w0 w w' : World} (h : q00a ok O ds w0 w) (hk : ∀ D : Nat, w0.heap.size <= D ∨ O D -> w.heap[D]? = some (.deferred (some [])) -> w'.heap[D]? = some (.deferred (some []))) : q00a ok O ds w0 w' := by
 obtain ⟨Ds, h1, h2, h3, h4⟩ := h
 exact ⟨Ds, h1, h2, fun D hD => ⟨(h3 D hD).1, hk D (h3 D hD).1 (h3 D hD).2⟩, h4⟩
structure Good (X : Nat -> Prop) (w0 : World) (O0 : Fr) (n : Nat) (S : St) (a : Act) (w : World) (hs : Nat -> Option Value) (fp : Nat -> List Nat) : Prop where
 size : a.tmps.size = n
 defers : q00a O0.mkp O0.own a.defers w0 w
 env : ∀ i, Is w (Ob X fp) hs (S.env i) (a.tmps.getD i undef)
 root : ∀ r, q00d w (Ob X fp) hs (S.roots r) (hs r) (fp r)
 disj : ∀ r r' b, b ∈ fp r -> b ∈ fp r' -> r = r'
 nodup : ∀ r, (fp r).Nodup
 foreign : ∀ r b, b ∈ fp r -> ¬ X b
 xold : ∀ b, X b -> b < w.heap.size
 xout : ∀ b, X b -> b < w0.heap.size -> ¬ O0 b
 mine : ∀ r b, b ∈ fp r -> O0 b ∨ w0.heap.size <= b
 hist : Hist w0 O0 w
 rooty : ∀ r t lk, S.roots r = .live t lk -> t.rooty = true
 hdr : ∀ r h, hs r = some h -> h.oneCell' = true
 small : n <= 100000
 pin : ∀ r h, 1000000000 <= r -> hs r = some h -> O0.hd r = some h

section
variable {X : Nat -> Prop} {w0 : World} {O0 : Fr} {n : Nat} {S : St} {a : Act} {w : World} {hs : Nat -> Option Value} {fp : Nat -> List Nat}

theorem q00d.lt {O : Nat -> Prop} {r : Root} {h : Option Value} {f : List Nat} (hr : q00d w O hs r h f) : ∀ b ∈ f, b < w.heap.size := by
 cases r with
 | free => rw [hr.2]; simp
 | dead => have : f = [] := hr; rw [this]; simp
 | live t lk => obtain ⟨x, _, ho, _⟩ := hr; exact ho.lt

theorem Good.lt (g : Good X w0 O0 n S a w hs fp) {r b : Nat} (h : b ∈ fp r) : b < w.heap.size := (g.root r).lt b h

end

theorem Ow.cells {w : World} {O : Nat -> Prop} {t : T} {x : Value} {fp : List Nat} (h : Ow w O t x fp) : ∀ b ∈ fp, ∃ cs e fz, w.heap[b]? = some (.cells cs e fz) := by
 induction h with
 | rd h => simp
 | arrNil s => simp
 | arr s l b len cap cs e fps hb hl hc hm hsz hfl hr ih =>
   intro b' hb'
   rcases List.mem_cons.1 hb' with rfl | h'
   ·exact ⟨_, _, _, hb⟩
   ·obtain ⟨f, hf, hbf⟩ := List.mem_flatten.1 h'
    obtain ⟨i, hi, rfl⟩ := List.mem_iff_getElem.1 hf
    exact ih i (by omega) b' (by rw [List.getD_eq_getElem?_getD, List.getElem?_eq_getElem hi]; exact hbf)
 | box l b cs e fps hb hl hfl hr ih =>
   intro b' hb'
   rcases List.mem_cons.1 hb' with rfl | h'
   ·exact ⟨_, _, _, hb⟩
   ·obtain ⟨f, hf, hbf⟩ := List.mem_flatten.1 h'
    obtain ⟨i, hi, rfl⟩ := List.mem_iff_getElem.1 hf
    exact ih i (by omega) b' (by rw [List.getD_eq_getElem?_getD, List.getElem?_eq_getElem hi]; exact hbf)
 | agg l vs fps hl hfl hr ih =>
   intro b' h'
   obtain ⟨f, hf, hbf⟩ := List.mem_flatten.1 h'
   obtain ⟨i, hi, rfl⟩ := List.mem_iff_getElem.1 hf
   exact ih i (by omega) b' (by rw [List.getD_eq_getElem?_getD, List.getElem?_eq_getElem hi]; exact hbf)
 | tup l vs fps hl hfl hr ih =>
   intro b' h'
   obtain ⟨f, hf, hbf⟩ := List.mem_flatten.1 h'
   obtain ⟨i, hi, rfl⟩ := List.mem_iff_getElem.1 hf
   exact ih i (by omega) b' (by rw [List.getD_eq_getElem?_getD, List.getElem?_eq_getElem hi]; exact hbf)
 | bld ty e bs b p v g hp hb hv =>
   intro b' hb'
   rcases List.mem_cons.1 hb' with rfl | h'
   ·exact ⟨_, _, _, hb⟩
   ·exact hv.lt b' h'
section
variable {X : Nat -> Prop} {w0 : World} {O0 : Fr} {n : Nat} {S : St} {a : Act} {w : World} {hs : Nat -> Option Value} {fp : Nat -> List Nat}
theorem Good.cells (g : Good X w0 O0 n S a w hs fp) {r b : Nat} (h : b ∈ fp r) : ∃ cs e fz, w.heap[b]? = some (.cells cs e fz) := by
 have hr := g.root r
 cases hS : S.roots r with
 | free => rw [hS] at hr; rw [hr.2] at h; simp at h
 | dead => rw [hS] at hr; have : fp r = [] := hr; rw [this] at h; simp at h
 | live t lk => rw [hS] at hr; obtain ⟨x, _, ho, _⟩ := hr; exact ho.cells b h
theorem Good.notMark (g : Good X w0 O0 n S a w hs fp) {D : Nat} (h : w.heap[D]? = some (.deferred (some []))) (r : Nat) : D ∉ fp r := fun hm => by
 obtain ⟨cs, e, fz, hc⟩ := g.cells hm
 rw [h] at hc; cases hc
end
end Go.Ab

/- The abstract layer, part 2: what one operation does to an abstract state; operations that compute values. -/
namespace Go.Ab

def OpW (P : Program) (n : Nat) (o : Oper) (S : St) (K : St -> Prop) : Prop :=
 ∀ X w0 O0 a w hs fp, Good X w0 O0 n S a w hs fp -> ∀ Q, o.wp P a w (fun a' w' => ∃ S' hs' fp', Good X w0 O0 n S' a' w' hs' fp' /\ K S') Q

def St.ev (S : St) : Operand -> A
 | .tmp t => S.env t
 | .const v => .t (.v v)
 | .global _ => .t .any
 | .func f => .fn f []

section
variable {P : Program} {X : Nat -> Prop} {w0 : World} {O0 : Fr} {n : Nat} {S : St} {a : Act} {w : World} {hs : Nat -> Option Value} {fp : Nat -> List Nat}

theorem Good.ev (g : Good X w0 O0 n S a w hs fp) (x : Operand) : Is w (Ob X fp) hs (S.ev x) (a.eval x) := by
 cases x with
 | tmp t => exact g.env t
 | const v => exact .t (.v _)
 | global g => exact .t (.any _)
 | func f => exact .fn (vs := []) rfl (fun i h => absurd h (by simp))

theorem Good.put (g : Good X w0 O0 n S a w hs fp) {d : Nat} (hd : d < n) {x : A} {v : Value} (h : Is w (Ob X fp) hs x v) :
  Good X w0 O0 n (S.put (some d) x) (a.put (some d) v) w hs fp := by
 refine ⟨by simp [Act.put, g.size], g.defers, fun i => ?_, g.root, g.disj, g.nodup, g.foreign, g.xold, g.xout, g.mine, g.hist, g.rooty, g.hdr, g.small, g.pin⟩
 by_cases hi : i = d
 ·subst hi
  have : (a.put (some i) v).tmps.getD i undef = v := by simp [Act.put, Array.getD_eq_getD_getElem?, g.size, hd]
  rw [this]; simp only [St.put, q0x2]; exact h
 ·have : (a.put (some d) v).tmps.getD i undef = a.tmps.getD i undef := by
   simp [Act.put, Array.getD_eq_getD_getElem?, Array.getElem?_setIfInBounds, Ne.symm hi]
  rw [this]; simp only [St.put, q0x1 _ _ _ _ hi]; exact g.env i

theorem OpW.val {o : Oper} {K : St -> Prop} {d : Nat} {x : A} (hdst : o.dst = some d) (hd : d < n)
  (h : ∀ X w0 O0 a w hs fp, Good X w0 O0 n S a w hs fp -> ∃ v, (execOp a.eval o).run P w = .ok (.value v) w /\ Is w (Ob X fp) hs x v)
  (k : K (S.put (some d) x)) : OpW P n o S K := by
 intro X w0 O0 a w hs fp g Q
 obtain ⟨v, hr, hi⟩ := h X w0 O0 a w hs fp g
 unfold Oper.wp
 rw [hr, Oper.upon_value, hdst]
 exact ⟨_, hs, fp, g.put hd hi, k⟩
end

-- inversion of what a slot reads as
section
variable {w : World} {O : Nat -> Prop} {hs : Nat -> Option Value}
theorem Is.v_inv {x v : Value} (h : Is w O hs (.t (.v x)) v) : v = x := by cases h with | t h => cases h; rfl
theorem Is.tup_inv {l : List A} {v : Value} (h : Is w O hs (.tup l) v) : ∃ vs : List Value, v = .tuple vs.toArray /\ vs.length = l.length /\ ∀ i (h : i < l.length), Is w O hs l[i] (vs.getD i undef) := by
 cases h with | tup hl hr => exact ⟨_, rfl, hl, hr⟩
theorem Is.agg_inv {l : List A} {v : Value} (h : Is w O hs (.agg l) v) : ∃ vs : List Value, v = .agg vs.toArray /\ vs.length = l.length /\ ∀ i (h : i < l.length), Is w O hs l[i] (vs.getD i undef) := by
 cases h with | agg hl hr => exact ⟨_, rfl, hl, hr⟩
theorem Is.ttup_inv {l : List T} {v : Value} (h : Is w O hs (.t (.tup l)) v) : ∃ vs : List Value, v = .tuple vs.toArray /\ vs.length = l.length /\ ∀ i (h : i < l.length), Is w O hs (.t l[i]) (vs.getD i undef) := by
 cases h with | t h => cases h with | tup _ _ hl hr => exact ⟨_, rfl, hl, fun i h => .t (hr i h)⟩
theorem Is.tagg_inv {l : List T} {v : Value} (h : Is w O hs (.t (.agg l)) v) : ∃ vs : List Value, v = .agg vs.toArray /\ vs.length = l.length /\ ∀ i (h : i < l.length), Is w O hs (.t l[i]) (vs.getD i undef) := by
 cases h with | t h => cases h with | agg _ _ hl hr => exact ⟨_, rfl, hl, fun i h => .t (hr i h)⟩
theorem Is.sh_inv {s : Nat} {l : List T} {v : Value} (h : Is w O hs (.t (.sh s l)) v) :
  (v = .slice none 0 0 /\ l = []) ∨ (∃ ad cap, v = .slice (some ad) 0 cap /\ l = []) ∨ ∃ b off len cap cs e fz, v = .slice (some ⟨b, off, none⟩) len cap /\ ¬ O b /\ w.heap[b]? = some (.cells cs e fz) /\ off + l.length <= cs.size /\ l.length = len * s /\ len <= cap ∧
   ∀ i (h : i < l.length), Rd w O l[i] (cs.getD (off + i) undef) := by
 cases h with
 | t h =>
   cases h with
   | shNil => exact .inl ⟨rfl, rfl⟩
   | shZ _ ad cap => exact .inr (.inl ⟨ad, cap, rfl, rfl⟩)
   | sh _ _ b off len cap cs e fz h1 h2 h3 h4 h5 h6 => exact .inr (.inr ⟨b, off, len, cap, cs, e, fz, rfl, h1, h2, h3, h4, h5, h6⟩)
end

def bitA (k : IntKind) (a b : Int) : Int := k.wrap (BitVec.ofInt k.bits a &&& BitVec.ofInt k.bits b).toNat
def bitO (k : IntKind) (a b : Int) : Int := k.wrap (BitVec.ofInt k.bits a ||| BitVec.ofInt k.bits b).toNat
def bitN (k : IntKind) (a b : Int) : Int := k.wrap (BitVec.ofInt k.bits a &&& ~~~ BitVec.ofInt k.bits b).toNat
def shlI (k : IntKind) (a b : Int) : Int := k.wrap (a * 2 ^ min b.toNat k.bits)
def shrI (k : IntKind) (a b : Int) : Int := a.fdiv (2 ^ min b.toNat k.bits)
def binI (op : BinOp) (k : IntKind) (a b : Int) (K : A -> Prop) : Prop :=
 match op with
 | .add => K (.v (.int k (k.wrap (a + b))))
 | .sub => K (.v (.int k (k.wrap (a - b))))
 | .mul => K (.v (.int k (k.wrap (a * b))))
 | .quo => b ≠ 0 /\ K (.v (.int k (k.wrap (a.tdiv b))))
 | .rem => b ≠ 0 /\ K (.v (.int k (a.tmod b)))
 | .eql => K (.v (.bool (a == b)))
 | .neq => K (.v (.bool (a != b)))
 | .lss => K (.v (.bool (decide (a < b))))
 | .leq => K (.v (.bool (decide (a <= b))))
 | .gtr => K (.v (.bool (decide (a > b))))
 | .geq => K (.v (.bool (decide (a ≥ b))))
 | .and => K (.v (.int k (bitA k a b)))
 | .or => K (.v (.int k (bitO k a b)))
 | .andNot => K (.v (.int k (bitN k a b)))
 | _ => False

theorem q0qm {P : Program} {op : BinOp} {k : IntKind} {a b : Int} {K : A -> Prop} (h : binI op k a b K) (t : TypeId) :
  ∃ v, (∀ w, (binOp op t (.int k a) (.int k b)).run P w = .ok v w) /\ K (.v v) := by
 cases op <;> simp only [binI] at h <;> first
  | (exact h.elim)
  | (exact ⟨_, fun w => by first | (simp [binOp, Op.intArith, Op.intCmp]; done) | (simp [binOp, Op.intBits, bitA, bitO, bitN]; done), h⟩)
  | (exact ⟨_, fun w => by simp [binOp, Op.intDiv, h.1], h.2⟩)
theorem q0qo {P : Program} (op : BinOp) (t : TypeId) (x y : Operand) (k : IntKind) (a b : Int) (w : World) : (eqGuard op t x y (.int k a) (.int k b)).run P w = .ok () w := by
 unfold eqGuard
 cases op <;> rfl

def binS (op : BinOp) (a b : ByteArray) (K : A -> Prop) : Prop :=
 match op with
 | .add => ((a.size + b.size : Nat) : Int) <= 9223372036854775807 /\ K (.v (.string (a ++ b)))
 | .eql => K (.v (.bool (a.toList == b.toList)))
 | .neq => K (.v (.bool (!(a.toList == b.toList))))
 | _ => False
theorem q24q {P : Program} {op : BinOp} {a b : ByteArray} {K : A -> Prop} (h : binS op a b K) (t : TypeId) :
  ∃ v, (∀ w, (binOp op t (.string a) (.string b)).run P w = .ok v w) /\ K (.v v) := by
 cases op <;> simp only [binS] at h <;> first
  | (exact h.elim)
  | (exact ⟨_, fun w => by simp [binOp, Op.stringOp]; done, h⟩)
  | (refine ⟨_, fun w => ?_, h.2⟩
     have h1 : ¬ (((a.size + b.size : Nat) : Int) > IntKind.i64.max) := by have := h.1; show ¬ (_ > (9223372036854775807 : Int)); omega
     simp only [binOp, Op.stringOp, h1, if_false]; rfl)
theorem q24t {P : Program} (op : BinOp) (t : TypeId) (x y : Operand) (a b : ByteArray) (w : World) : (eqGuard op t x y (.string a) (.string b)).run P w = .ok () w := by
 unfold eqGuard
 cases op <;> rfl

def binW (op : BinOp) (x y : A) (K : A -> Prop) : Prop :=
 match x, y with
 | .t (.v (.int k a)), .t (.v (.int k' b)) => (match op with
   | .shl => 0 <= b /\ K (.v (.int k (shlI k a b)))
   | .shr => 0 <= b /\ K (.v (.int k (shrI k a b)))
   | _ => k' = k /\ binI op k a b K)
 | .t (.v (.string a)), .t (.v (.string b)) => binS op a b K
 | _, _ => False

def putK (S : St) (d : Nat) (K : St -> Prop) : A -> Prop := fun a => K (S.put (some d) a)
theorem q0og (S : St) (d : Nat) (K : St -> Prop) (a : A) : putK S d K a = K { S with env := upd S.env d a } := rfl

section
variable {P : Program} {n : Nat} {S : St} {K : St -> Prop}
theorem q0n3 {o : Oper} {d : Nat} {x : Operand} (ho : o.op = .move x ∨ o.op = .assign x) (hdst : o.dst = some d) (hd : d < n) (k : putK S d K (S.ev x)) : OpW P n o S K :=
 OpW.val hdst hd (fun X w0 O0 a w hs fp g => ⟨a.eval x, by unfold execOp; rcases ho with ho | ho <;> simp [ho], g.ev x⟩) k

theorem q0n6 {o : Oper} {d : Nat} {c x y : Operand} {b : Bool} (ho : o.op = .pick c x y) (hdst : o.dst = some d) (hd : d < n) (hc : S.ev c = .t (.v (.bool b)))
  (k : putK S d K (if b then S.ev x else S.ev y)) : OpW P n o S K :=
 OpW.val hdst hd (fun X w0 O0 a w hs fp g => by
  have h := g.ev c
  rw [hc] at h
  have h' := h.v_inv
  refine ⟨if b then a.eval x else a.eval y, by simp [execOp, ho, h', asBool], ?_⟩
  cases b
  ·exact g.ev y
  ·exact g.ev x) k

theorem q0mj {o : Oper} {d : Nat} {op : BinOp} {t u : TypeId} {x y : Operand} (ho : o.op = .binOp op t x y u) (hdst : o.dst = some d) (hd : d < n)
  (k : binW op (S.ev x) (S.ev y) (putK S d K)) : OpW P n o S K := by
 unfold binW at k
 split at k
 ·rename_i kk a1 kk' b1 hx hy
  split at k
  ·refine OpW.val hdst hd (fun X w0 O0 a w hs fp g => ?_) k.2
   have h1 := g.ev x; rw [hx] at h1; have h1' := h1.v_inv
   have h2 := g.ev y; rw [hy] at h2; have h2' := h2.v_inv
   have hn : ¬ b1 < 0 := by have := k.1; omega
   exact ⟨_, by simp [execOp, ho, h1', h2', eqGuard, binOp, Op.shift, hn, shlI], .t (.v _)⟩
  ·refine OpW.val hdst hd (fun X w0 O0 a w hs fp g => ?_) k.2
   have h1 := g.ev x; rw [hx] at h1; have h1' := h1.v_inv
   have h2 := g.ev y; rw [hy] at h2; have h2' := h2.v_inv
   have hn : ¬ b1 < 0 := by have := k.1; omega
   exact ⟨_, by simp [execOp, ho, h1', h2', eqGuard, binOp, Op.shift, hn, shrI], .t (.v _)⟩
  obtain ⟨rfl, hk⟩ := k
  obtain ⟨v, hv, hK⟩ := q0qm (P := P) hk t
  refine OpW.val (x := .v v) hdst hd (fun X w0 O0 a w hs fp g => ?_) hK
  have h1 := g.ev x; rw [hx] at h1; have h1' := h1.v_inv
  have h2 := g.ev y; rw [hy] at h2; have h2' := h2.v_inv
  exact ⟨v, by simp [execOp, ho, h1', h2', q0qo, hv], .t (.v v)⟩
 ·rename_i sa sb hx hy
  obtain ⟨v, hv, hK⟩ := q24q (P := P) k t
  refine OpW.val (x := .v v) hdst hd (fun X w0 O0 a w hs fp g => ?_) hK
  have h1 := g.ev x; rw [hx] at h1; have h1' := h1.v_inv
  have h2 := g.ev y; rw [hy] at h2; have h2' := h2.v_inv
  exact ⟨v, by simp [execOp, ho, h1', h2', q24t, hv], .t (.v v)⟩
 ·exact k.elim

def unW (op : UnOp) (x : A) (K : A -> Prop) : Prop :=
 match op, x with
 | .neg, .t (.v (.int k a)) => K (.v (.int k (k.wrap (0 - a))))
 | .not, .t (.v (.bool b)) => K (.v (.bool (!b)))
 | _, _ => False
theorem q0nc {o : Oper} {d : Nat} {op : UnOp} {t : TypeId} {x : Operand} (ho : o.op = .unOp op t x) (hdst : o.dst = some d) (hd : d < n)
  (k : unW op (S.ev x) (putK S d K)) : OpW P n o S K := by
 unfold unW at k
 split at k
 ·rename_i kk a1 hx
  refine OpW.val hdst hd (fun X w0 O0 a w hs fp g => ?_) k
  have h1 := g.ev x; rw [hx] at h1; have h1' := h1.v_inv
  exact ⟨_, by simp [execOp, ho, h1', Op.unary, Op.intArith], .t (.v _)⟩
 ·rename_i b1 hx
  refine OpW.val hdst hd (fun X w0 O0 a w hs fp g => ?_) k
  have h1 := g.ev x; rw [hx] at h1; have h1' := h1.v_inv
  exact ⟨_, by simp [execOp, ho, h1', Op.unary], .t (.v _)⟩
 ·exact k.elim

def q08w (x : A) (i : Nat) (K : A -> Prop) : Prop :=
 match x with
 | .tup l => ∃ a, l[i]? = some a /\ K a
 | .t (.tup l) => ∃ a, l[i]? = some a /\ K (.t a)
 | _ => False
theorem q0ms {o : Oper} {d i : Nat} {x : Operand} (ho : o.op = .extract x i) (hdst : o.dst = some d) (hd : d < n)
  (k : q08w (S.ev x) i (putK S d K)) : OpW P n o S K := by
 unfold q08w at k
 split at k
 ·rename_i l hx
  obtain ⟨b, hb, hK⟩ := k
  refine OpW.val (x := b) hdst hd (fun X w0 O0 a w hs fp g => ?_) hK
  have h1 := g.ev x; rw [hx] at h1
  obtain ⟨vs, hv, hl, hr⟩ := h1.tup_inv
  obtain ⟨hi, rfl⟩ := List.getElem?_eq_some_iff.1 hb
  have hv' : vs[i]? = some vs[i] := List.getElem?_eq_getElem (by omega)
  refine ⟨vs[i], by simp [execOp, ho, hv, Instr.extract, hv'], ?_⟩
  have := hr i hi
  rwa [List.getD_eq_getElem?_getD, hv'] at this
 ·rename_i l hx
  obtain ⟨b, hb, hK⟩ := k
  refine OpW.val (x := .t b) hdst hd (fun X w0 O0 a w hs fp g => ?_) hK
  have h1 := g.ev x; rw [hx] at h1
  obtain ⟨vs, hv, hl, hr⟩ := h1.ttup_inv
  obtain ⟨hi, rfl⟩ := List.getElem?_eq_some_iff.1 hb
  have hv' : vs[i]? = some vs[i] := List.getElem?_eq_getElem (by omega)
  refine ⟨vs[i], by simp [execOp, ho, hv, Instr.extract, hv'], ?_⟩
  have := hr i hi
  rwa [List.getD_eq_getElem?_getD, hv'] at this
 ·exact k.elim
end
end Go.Ab

/- The abstract layer, part 3: operations that read memory or compute addresses. -/
namespace Go.Ab

-- what is asked of a type
def q0w0 (P : Program) (t : TypeId) : Option Bool := (P.underlying t).map fun | .struct _ => true | .array _ _ => true | _ => false
def q0wn (P : Program) (t : TypeId) : Option Nat := (P.info? t).map (·.size)
def q0w7 (P : Program) (t : TypeId) : Option Nat := (P.info? t).map (·.bytes)
def q0w9 (P : Program) (t : TypeId) : Option TypeId := (P.underlying t).bind fun | .slice e => some e | _ => none
def q0wg (P : Program) (t : TypeId) : Option IntKind := (P.underlying t).bind fun | .int k => some k | _ => none
def q0wq (P : Program) (t : TypeId) : Bool := match P.underlying t with | some .string => true | _ => false
def tyEs (P : Program) (t : TypeId) : Option Nat := (q0w9 P t).bind (q0wn P)
def tyEb (P : Program) (t : TypeId) : Option Nat := (q0w9 P t).bind (q0w7 P)
def q0wc (P : Program) (t : TypeId) (f : Nat) : Option (Nat × Nat × Bool) :=
 (P.underlying t).bind fun
  | .struct fs => (fs[f]?).bind fun fd => (q0wn P fd.type).bind fun z => (q0w0 P fd.type).map fun g => (fd.offset, z, g)
  | _ => none

theorem q0wa {P : Program} {t e : TypeId} (h : q0w9 P t = some e) : P.underlying t = some (.slice e) := by
 unfold q0w9 at h
 cases hu : P.underlying t with
 | none => simp [hu] at h
 | some d => rw [hu] at h; cases d <;> simp at h; rw [h]
theorem q0wp {P : Program} {t z : Nat} (h : q0wn P t = some z) : ∃ i, P.info? t = some i /\ i.size = z := by
 unfold q0wn at h
 cases hu : P.info? t with
 | none => simp [hu] at h
 | some d => simp [hu] at h; exact ⟨d, rfl, h⟩
theorem q0w8 {P : Program} {t z : Nat} (h : q0w7 P t = some z) : ∃ i, P.info? t = some i /\ i.bytes = z := by
 unfold q0w7 at h
 cases hu : P.info? t with
 | none => simp [hu] at h
 | some d => simp [hu] at h; exact ⟨d, rfl, h⟩
theorem q0wb {P : Program} {t z : Nat} (h : tyEs P t = some z) : ∃ e i, P.underlying t = some (.slice e) /\ P.info? e = some i /\ i.size = z := by
 unfold tyEs at h
 cases he : q0w9 P t with
 | none => simp [he] at h
 | some e => simp [he] at h; obtain ⟨i, hi, hz⟩ := q0wp h; exact ⟨e, i, q0wa he, hi, hz⟩
theorem q0wh {P : Program} {t : TypeId} {k : IntKind} (h : q0wg P t = some k) : P.underlying t = some (.int k) := by
 unfold q0wg at h
 cases hu : P.underlying t with
 | none => simp [hu] at h
 | some d => rw [hu] at h; cases d <;> simp at h; rw [h]
theorem q0w1 {P : Program} {t : TypeId} {b : Bool} (h : q0w0 P t = some b) (w : World) : (isAgg t).run P w = .ok b w := by
 unfold q0w0 at h
 cases hu : P.underlying t with
 | none => simp [hu] at h
 | some d =>
   rw [hu] at h; simp only [Option.map_some, Option.some.injEq] at h
   subst h
   cases d <;> simp [isAgg, run_underlying hu]
theorem q0wo {P : Program} {t z : Nat} (h : q0wn P t = some z) (w : World) : (sizeOf t).run P w = .ok z w := by
 obtain ⟨i, hi, hz⟩ := q0wp h
 simp [sizeOf, typeInfo, hi, hz]

theorem q060 {w : World} {b o : Nat} {cs : Array Value} {e : TypeId} {fz : Nat × Nat} (hb : w.heap[b]? = some (.cells cs e fz)) (h : o < cs.size) :
  w.cell? ⟨b, o, none⟩ = some (cs.getD o undef) := by
 simp [World.cell?, hb, Array.getD_eq_getD_getElem?, h]
theorem addr_add (b o k : Nat) : (⟨b, o, none⟩ : Addr).add k = ⟨b, o + k, none⟩ := by
 unfold Addr.add; split <;> simp_all

theorem q0qq {P : Program} {t : TypeId} (h : q0w0 P t = some false) {w : World} {ad : Addr} {v : Value} (hc : w.cell? ad = some v) : (loadVar t ad).run P w = .ok v w := by
 simp [loadVar, q0w1 h, Go.load, Sem.run, hc]
theorem q0qr {P : Program} {t z : Nat} (h : q0w0 P t = some true) (hz : q0wn P t = some z) {w : World} {b o : Nat} {cs : Array Value} {e : TypeId} {fz : Nat × Nat}
  (hb : w.heap[b]? = some (.cells cs e fz)) (hsz : o + z <= cs.size) : (loadVar t ⟨b, o, none⟩).run P w = .ok (.agg ((List.range z).map fun i => cs.getD (o + i) undef).toArray) w := by
 have hl := run_loadCells (P := P) (w := w) ⟨b, o, none⟩ z (fun i => cs.getD (o + i) undef) (fun j hj => by rw [addr_add]; exact q060 hb (by omega))
 simp only [loadVar, Sem.run_bind, q0w1 h, Result.andThen_ok, q0wo hz, if_true]
 simp [hl]

def T.flat : T -> Bool
 | .any | .v _ | .sh _ _ | .pin _ _ | .fn _ _ => true
 | _ => false

theorem Ow.flat_rd {w : World} {O : Nat -> Prop} {t : T} {x : Value} {fp : List Nat} (h : Ow w O t x fp) (hf : t.flat = true) : Rd w O t x /\ fp = [] := by
 cases h with
 | rd h => exact ⟨h, rfl⟩
 | arrNil => simp [T.flat] at hf
 | arr => simp [T.flat] at hf
 | box => simp [T.flat] at hf
 | agg => simp [T.flat] at hf
 | tup => simp [T.flat] at hf
 | bld => simp [T.flat] at hf

theorem Is.own_inv {w : World} {O : Nat -> Prop} {hs : Nat -> Option Value} {r : Nat} {v : Value} (h : Is w O hs (.own r) v) : hs r = some v := by cases h; assumption

section
variable {P : Program} {X : Nat -> Prop} {w0 : World} {O0 : Fr} {n : Nat} {S : St} {a : Act} {w : World} {hs : Nat -> Option Value} {fp : Nat -> List Nat}
theorem Good.arr (g : Good X w0 O0 n S a w hs fp) {r s : Nat} {l : List T} {lk : List (Nat × Nat)} (h : S.roots r = .live (.arr s l) lk) :
  (hs r = some (.slice none 0 0) /\ l = [] /\ fp r = [] /\ lk = []) ∨ ∃ (b len cap : Nat) (cs : Array Value) (e : TypeId) (fps : List (List Nat)), hs r = some (.slice (some ⟨b, 0, none⟩) len cap) /\ w.heap[b]? = some (.cells cs e (0, 0)) /\ l.length = len * s /\ len <= cap /\ cap <= maxLen ∧
   cs.size = cap * s /\ fps.length = l.length /\ (∀ i (h : i < l.length), Ow w (Ob X fp) l[i] (cs.getD i undef) (fps.getD i [])) /\ fp r = b :: fps.flatten /\ l.length <= cs.size ∧
   ∀ p ∈ lk, ∃ y, w.cell? ⟨b, p.1, none⟩ = some y /\ hs p.2 = some y := by
 have hr := g.root r
 rw [h] at hr
 obtain ⟨x, hx, ho, hlk⟩ := hr
 generalize hfp : fp r = f at ho
 cases ho with
 | rd hh => cases hh
 | arrNil =>
   refine .inl ⟨hx, rfl, rfl, ?_⟩
   cases lk with
   | nil => rfl
   | cons p q => obtain ⟨y, hy, _⟩ := hlk p (by simp); simp [cellOf] at hy
 | arr _ _ b len cap cs e fps hb hl hc hm hsz hf hr =>
   refine .inr ⟨b, len, cap, cs, e, fps, hx, hb, hl, hc, hm, hsz, hf, hr, rfl, ?_, fun p hp => ?_⟩
   ·rw [hl, hsz]; exact Nat.mul_le_mul_right _ hc
   ·obtain ⟨y, hy, hd⟩ := hlk p hp
    exact ⟨y, by simpa [cellOf] using hy, hd⟩
theorem Good.box (g : Good X w0 O0 n S a w hs fp) {r : Nat} {l : List T} {lk : List (Nat × Nat)} (h : S.roots r = .live (.box l) lk) :
  ∃ (b : Nat) (cs : Array Value) (e : TypeId) (fps : List (List Nat)), hs r = some (.pointer (some ⟨b, 0, none⟩)) /\ w.heap[b]? = some (.cells cs e (0, 0)) /\ l.length = cs.size /\ fps.length = l.length ∧
    (∀ i (h : i < l.length), Ow w (Ob X fp) l[i] (cs.getD i undef) (fps.getD i [])) /\ fp r = b :: fps.flatten /\ ∀ p ∈ lk, ∃ y, w.cell? ⟨b, p.1, none⟩ = some y /\ hs p.2 = some y := by
 have hr := g.root r
 rw [h] at hr
 obtain ⟨x, hx, ho, hlk⟩ := hr
 generalize hfp : fp r = f at ho
 cases ho with
 | rd hh => cases hh
 | box _ b cs e fps hb hl hf hr =>
   refine ⟨b, cs, e, fps, hx, hb, hl, hf, hr, rfl, fun p hp => ?_⟩
   obtain ⟨y, hy, hd⟩ := hlk p hp
   exact ⟨y, by simpa [cellOf] using hy, hd⟩
end

def Root.cells : Root -> Option (List T × List (Nat × Nat))
 | .live (.arr _ l) lk => some (l, lk)
 | .live (.box l) lk => some (l, lk)
 | _ => none

section
variable {P : Program} {n : Nat} {S : St} {K : St -> Prop}

def lenW (P : Program) (t : TypeId) (x : A) (S : St) (K : A -> Prop) : Prop :=
 match x with
 | .t (.v (.string s)) => q0wq P t = true /\ K (.v (.int .i64 s.size))
 | .t (.v (.slice none 0 0)) => (q0w9 P t).isSome = true /\ K (.v (.int .i64 0))
 | .t (.sh s l) => (q0w9 P t).isSome = true /\ 0 < s /\ K (.v (.int .i64 ((l.length / s : Nat) : Int)))
 | .own r => (q0w9 P t).isSome = true /\ (match S.roots r with | .live (.arr s l) _ => 0 < s /\ K (.v (.int .i64 ((l.length / s : Nat) : Int))) | _ => False)
 | .sub _ _ m => (q0w9 P t).isSome = true /\ K (.v (.int .i64 (m : Nat)))
 | _ => False

theorem run_len_slice {t ty : TypeId} (h : (q0w9 P t).isSome = true) (a : Option Addr) (m c : Nat) (w : World) : (Builtin.len_ #[t] ty #[.slice a m c]).run P w = .ok (.int .i64 m) w := by
 cases he : q0w9 P t with
 | none => simp [he] at h
 | some e => simp [Builtin.len_, run_underlying (q0wa he), goInt]

theorem q08r {ρ : Operand -> Value} {o : Oper} {t : TypeId} {x : Operand} (ho : o.op = .call { callee := .builtin .len, args := #[x], argTypes := #[t] }) {v v' : Value} {w : World}
  (hx : ρ x = v) (h : (Builtin.len_ #[t] o.type #[v]).run P w = .ok v' w) : (execOp ρ o).run P w = .ok (.value v') w := by
 simp [execOp, ho, resolve, invoke, builtin, hx, h]

theorem q0mx {o : Oper} {d : Nat} {t : TypeId} {x : Operand} (ho : o.op = .call { callee := .builtin .len, args := #[x], argTypes := #[t] }) (hdst : o.dst = some d) (hd : d < n)
  (k : lenW P t (S.ev x) S (putK S d K)) : OpW P n o S K := by
 unfold lenW at k
 split at k
 ·rename_i s hx
  obtain ⟨ht, hK⟩ := k
  refine OpW.val hdst hd (fun X w0 O0 a w hs fp g => ?_) hK
  have h1 := g.ev x; rw [hx] at h1; have h1' := h1.v_inv
  refine ⟨_, q08r ho h1' ?_, .t (.v _)⟩
  unfold q0wq at ht
  split at ht
  ·rename_i hu; simp [Builtin.len_, run_underlying hu, goInt]
  ·cases ht
 ·rename_i hx
  obtain ⟨ht, hK⟩ := k
  refine OpW.val hdst hd (fun X w0 O0 a w hs fp g => ?_) hK
  have h1 := g.ev x; rw [hx] at h1
  exact ⟨_, q08r ho h1.v_inv (run_len_slice ht _ _ _ _), .t (.v _)⟩
 ·rename_i s l hx
  obtain ⟨ht, hs0, hK⟩ := k
  refine OpW.val hdst hd (fun X w0 O0 a w hs fp g => ?_) hK
  have h1 := g.ev x; rw [hx] at h1
  rcases h1.sh_inv with ⟨hv, rfl⟩ | ⟨ad, cap, hv, rfl⟩ | ⟨b, off, len, cap, cs, e, fz, hv, _, _, _, hl, _, _⟩
  ·exact ⟨_, q08r ho hv (run_len_slice ht _ _ _ _), by simpa using Is.t (.v _)⟩
  ·exact ⟨_, q08r ho hv (run_len_slice ht _ _ _ _), by simpa using Is.t (.v _)⟩
  ·refine ⟨_, q08r ho hv (run_len_slice ht _ _ _ _), ?_⟩
   rw [hl, Nat.mul_div_cancel _ hs0]; exact .t (.v _)
 ·rename_i r hx
  obtain ⟨ht, k⟩ := k
  split at k
  ·rename_i s l lk hr
   obtain ⟨hs0, hK⟩ := k
   refine OpW.val hdst hd (fun X w0 O0 a w hs fp g => ?_) hK
   have h1 := g.ev x; rw [hx] at h1; have h1 := h1.own_inv
   rcases g.arr hr with ⟨hv, rfl, _⟩ | ⟨b, len, cap, cs, e, fps, hv, _, hl, _⟩
   ·rw [hv, Option.some.injEq] at h1
    exact ⟨_, q08r ho h1.symm (run_len_slice ht _ _ _ _), by simpa using Is.t (.v _)⟩
   ·rw [hv, Option.some.injEq] at h1
    refine ⟨_, q08r ho h1.symm (run_len_slice ht _ _ _ _), ?_⟩
    rw [hl, Nat.mul_div_cancel _ hs0]; exact .t (.v _)
  ·exact k.elim
 ·rename_i r off m hx
  obtain ⟨ht, hK⟩ := k
  refine OpW.val hdst hd (fun X w0 O0 a w hs fp g => ?_) hK
  have h1 := g.ev x; rw [hx] at h1
  generalize hv : a.eval x = v at h1
  cases h1 with
  | sub _ _ => exact ⟨_, q08r ho hv (run_len_slice ht _ _ _ _), .t (.v _)⟩
  | subZ _ => exact ⟨_, q08r ho hv (run_len_slice ht _ _ _ _), .t (.v _)⟩
  | subNil _ => exact ⟨_, q08r ho hv (run_len_slice ht _ _ _ _), .t (.v _)⟩
 ·exact k.elim

def q0fc (P : Program) (t : TypeId) (x i : A) (S : St) (K : A -> Prop) : Prop :=
 match i with
 | .t (.v (.int _ iv)) =>
   0 <= iv /\ match tyEs P t with
   | some z => (match x with
     | .t (.sh s l) => s = z /\ (iv.toNat + 1) * z <= l.length /\ 0 < z /\ K (.t (.pin l (iv.toNat * z)))
     | .own r => (match S.roots r with | .live (.arr s l) _ => s = z /\ (iv.toNat + 1) * z <= l.length /\ 0 < z /\ K (.ptr r (iv.toNat * z)) | _ => False)
     | .sub r off m => iv.toNat < m /\ K (.ptr r (off + iv.toNat * z))
     | _ => False)
   | none => False
 | _ => False

theorem q08p {ρ : Operand -> Value} {o : Oper} {t : TypeId} {x y : Operand} (ho : o.op = .indexAddr t x y) {z : Nat} (ht : tyEs P t = some z) {kk : IntKind} {iv : Int} {b off len cap : Nat} {w : World}
  (hx : ρ x = .slice (some ⟨b, off, none⟩) len cap) (hy : ρ y = .int kk iv) (h0 : 0 <= iv) (h1 : iv.toNat < len) :
  (execOp ρ o).run P w = .ok (.value (.pointer (some ⟨b, off + iv.toNat * z, none⟩))) w := by
 obtain ⟨e, i, hu, hi, hz⟩ := q0wb ht
 have h2 : 0 <= iv /\ iv < len := ⟨h0, by omega⟩
 simp [execOp, ho, hx, hy, Instr.indexAt, asIntOf, run_underlying hu, Go.sizeOf, typeInfo, hi, hz, h2, addr_add]

theorem q0j6 {i len z : Nat} (hz : 0 < z) (h : (i + 1) * z <= len * z) : i < len := by
 have := Nat.le_of_mul_le_mul_right h hz; omega

theorem q0mu {o : Oper} {d : Nat} {t : TypeId} {x y : Operand} (ho : o.op = .indexAddr t x y) (hdst : o.dst = some d) (hd : d < n)
  (k : q0fc P t (S.ev x) (S.ev y) S (putK S d K)) : OpW P n o S K := by
 unfold q0fc at k
 split at k
 ·rename_i kk iv hy
  obtain ⟨h0, k⟩ := k
  split at k
  ·rename_i z hz
   split at k
   ·rename_i s l hx
    obtain ⟨rfl, hle, hz0, hK⟩ := k
    refine OpW.val hdst hd (fun X w0 O0 a w hs fp g => ?_) hK
    have h2 := g.ev y; rw [hy] at h2; have h2' := h2.v_inv
    have h1 := g.ev x; rw [hx] at h1
    rcases h1.sh_inv with ⟨hv, rfl⟩ | ⟨ad, cap, hv, rfl⟩ | ⟨b, off, len, cap, cs, e, fz, hv, hO, hb, hsz, hl, hc, hr⟩
    ·simp at hle; have := Nat.mul_le_mul_right s (Nat.le_add_left 1 iv.toNat); omega
    ·simp at hle; have := Nat.mul_le_mul_right s (Nat.le_add_left 1 iv.toNat); omega
    ·exact ⟨_, q08p ho hz hv h2' h0 (q0j6 hz0 (hl ▸ hle)), .t (.pin l _ b off cs e fz hO hb hsz hr)⟩
   ·rename_i r hx
    split at k
    ·rename_i s l lk hr
     obtain ⟨rfl, hle, hz0, hK⟩ := k
     refine OpW.val hdst hd (fun X w0 O0 a w hs fp g => ?_) hK
     have h2 := g.ev y; rw [hy] at h2; have h2' := h2.v_inv
     have h1 := g.ev x; rw [hx] at h1; have h1 := h1.own_inv
     rcases g.arr hr with ⟨hv, rfl, _⟩ | ⟨b, len, cap, cs, e, fps, hv, _, hl, _⟩
     ·simp at hle; have := Nat.mul_le_mul_right s (Nat.le_add_left 1 iv.toNat); omega
     ·rw [hv, Option.some.injEq] at h1
      exact ⟨_, q08p ho hz h1.symm h2' h0 (q0j6 hz0 (hl ▸ hle)), by simpa using Is.ptrS hv⟩
    ·exact k.elim
   ·rename_i r off m hx
    obtain ⟨hlt, hK⟩ := k
    refine OpW.val hdst hd (fun X w0 O0 a w hs fp g => ?_) hK
    have h2 := g.ev y; rw [hy] at h2; have h2' := h2.v_inv
    have h1 := g.ev x; rw [hx] at h1
    generalize hv : a.eval x = v at h1
    cases h1 with
    | sub hr hc => exact ⟨_, q08p ho hz hv h2' h0 hlt, .ptrS hr⟩
    | subZ hr => omega
    | subNil hr => omega
   ·exact k.elim
  ·exact k.elim
 ·exact k.elim

def q08y (P : Program) (t : TypeId) (x : A) (f : Nat) (S : St) (K : A -> Prop) : Prop :=
 match q0wc P t f with
 | some (off, z, _) => 0 < z /\ (match x with
   | .t (.pin l o) => K (.t (.pin l (o + off)))
   | .ptr r o => K (.ptr r (o + off))
   | .own r => (match S.roots r with | .live (.box _) _ => K (.ptr r off) | _ => False)
   | _ => False)
 | none => False

theorem q0wd {t f off z : Nat} {ag : Bool} (h : q0wc P t f = some (off, z, ag)) : ∃ fs fd, P.underlying t = some (.struct fs) /\ fs[f]? = some fd /\ fd.offset = off /\ q0wn P fd.type = some z /\ q0w0 P fd.type = some ag := by
 unfold q0wc at h
 cases hu : P.underlying t with
 | none => simp [hu] at h
 | some d =>
   rw [hu] at h
   cases d <;> simp at h
   rename_i fs
   cases hf : fs[f]? with
   | none => simp [hf] at h
   | some fd =>
     simp only [hf, Option.bind_some] at h
     cases hz : q0wn P fd.type with
     | none => simp [hz] at h
     | some z' =>
       cases hg : q0w0 P fd.type with
       | none => simp [hz, hg] at h
       | some g' => simp [hz, hg] at h; exact ⟨fs, fd, rfl, hf, h.1, by rw [hz, h.2.1], by rw [hg, h.2.2]⟩

theorem q08o {ρ : Operand -> Value} {o : Oper} {t f : TypeId} {x : Operand} (ho : o.op = .fieldAddr t x f) {off z b o1 : Nat} {ag : Bool} (ht : q0wc P t f = some (off, z, ag)) (hz0 : 0 < z) {w : World}
  (hx : ρ x = .pointer (some ⟨b, o1, none⟩)) : (execOp ρ o).run P w = .ok (.value (.pointer (some ⟨b, o1 + off, none⟩))) w := by
 obtain ⟨fs, fd, hu, hf, ho1, hz, _⟩ := q0wd ht
 have hz' := q0wo hz w
 have : ¬ z = 0 := by omega
 simp [execOp, ho, hx, Instr.fieldAt, run_underlying hu, hf, Instr.sureAddr, fieldPlace, hz', this, ho1, addr_add]

theorem q0mt {o : Oper} {d f : Nat} {t : TypeId} {x : Operand} (ho : o.op = .fieldAddr t x f) (hdst : o.dst = some d) (hd : d < n)
  (k : q08y P t (S.ev x) f S (putK S d K)) : OpW P n o S K := by
 unfold q08y at k
 split at k
 ·rename_i off z ag hf
  obtain ⟨hz0, k⟩ := k
  split at k
  ·rename_i l o1 hx
   refine OpW.val hdst hd (fun X w0 O0 a w hs fp g => ?_) k
   have h1 := g.ev x; rw [hx] at h1
   generalize hv : a.eval x = v at h1
   cases h1 with
   | t h1 =>
     cases h1 with
     | pin _ _ b oo cs e fz hO hb hsz hr =>
       exact ⟨_, q08o ho hf hz0 hv, .t (by simpa [Nat.add_assoc] using Rd.pin l (o1 + off) b oo cs e fz hO hb hsz hr)⟩
  ·rename_i r o1 hx
   refine OpW.val hdst hd (fun X w0 O0 a w hs fp g => ?_) k
   have h1 := g.ev x; rw [hx] at h1
   generalize hv : a.eval x = v at h1
   cases h1 with
   | ptrS hr => exact ⟨_, q08o ho hf hz0 hv, .ptrS hr⟩
   | ptrP hr => exact ⟨_, q08o ho hf hz0 hv, .ptrP hr⟩
  ·rename_i r hx
   split at k
   ·rename_i l lk hr
    refine OpW.val hdst hd (fun X w0 O0 a w hs fp g => ?_) k
    have h1 := g.ev x; rw [hx] at h1; have h1 := h1.own_inv
    obtain ⟨b, cs, e, fps, hb, _⟩ := g.box hr
    rw [hb, Option.some.injEq] at h1
    exact ⟨_, q08o ho hf hz0 h1.symm, by simpa using Is.ptrP hb⟩
   ·exact k.elim
  ·exact k.elim
 ·exact k.elim

def q0w3 (P : Program) (t : TypeId) : Option (Nat × Nat) := (P.underlying t).bind fun
 | .array len e => (q0wn P e).map fun z => (len, z)
 | _ => none
theorem q0w4 {t len z : Nat} (h : q0w3 P t = some (len, z)) : ∃ e, P.underlying t = some (.array len e) /\ q0wn P e = some z := by
 unfold q0w3 at h
 cases hu : P.underlying t with
 | none => simp [hu] at h
 | some d =>
   rw [hu] at h
   cases d <;> simp at h
   rename_i m e
   obtain ⟨h1, rfl⟩ := h
   exact ⟨e, rfl, h1⟩
def arrC (len z : Nat) (x i : A) (S : St) (K : A -> Prop) : Prop :=
 match i with
 | .t (.v (.int _ iv)) => 0 <= iv /\ iv < len /\ (match x with
   | .t (.pin l o) => K (.t (.pin l (o + iv.toNat * z)))
   | .ptr r o => K (.ptr r (o + iv.toNat * z))
   | .own r => (match S.roots r with | .live (.box _) _ => K (.ptr r (iv.toNat * z)) | _ => False)
   | _ => False)
 | _ => False
theorem q08q {ρ : Operand -> Value} {o : Oper} {t : TypeId} {x y : Operand} (ho : o.op = .indexAddr t x y) {len z : Nat} (ht : q0w3 P t = some (len, z)) {kk : IntKind} {iv : Int} {b o1 : Nat} {w : World}
  (hx : ρ x = .pointer (some ⟨b, o1, none⟩)) (hy : ρ y = .int kk iv) (h0 : 0 <= iv) (h1 : iv < len) :
  (execOp ρ o).run P w = .ok (.value (.pointer (some ⟨b, o1 + iv.toNat * z, none⟩))) w := by
 obtain ⟨e, hu, hz⟩ := q0w4 ht
 have hz' := q0wo hz w
 have h2 : 0 <= iv /\ iv < len := ⟨h0, h1⟩
 simp [execOp, ho, hx, hy, Instr.indexAt, asIntOf, run_underlying hu, Instr.sureAddr, hz', h2, addr_add]
theorem q0mv {o : Oper} {d len z : Nat} {t : TypeId} {x y : Operand} (ht : q0w3 P t = some (len, z)) (ho : o.op = .indexAddr t x y) (hdst : o.dst = some d) (hd : d < n)
  (k : arrC len z (S.ev x) (S.ev y) S (putK S d K)) : OpW P n o S K := by
 unfold arrC at k
 split at k
 ·rename_i kk iv hy
  obtain ⟨h0, h3, k⟩ := k
  split at k
  ·rename_i l o1 hx
   refine OpW.val hdst hd (fun X w0 O0 a w hs fp g => ?_) k
   have h2 := g.ev y; rw [hy] at h2; have h2' := h2.v_inv
   have h1 := g.ev x; rw [hx] at h1
   generalize hv : a.eval x = v at h1
   cases h1 with
   | t h1 =>
     cases h1 with
     | pin _ _ b oo cs e fz hO hb hsz hr =>
       exact ⟨_, q08q ho ht hv h2' h0 h3, .t (by simpa [Nat.add_assoc] using Rd.pin l (o1 + iv.toNat * z) b oo cs e fz hO hb hsz hr)⟩
  ·rename_i r o1 hx
   refine OpW.val hdst hd (fun X w0 O0 a w hs fp g => ?_) k
   have h2 := g.ev y; rw [hy] at h2; have h2' := h2.v_inv
   have h1 := g.ev x; rw [hx] at h1
   generalize hv : a.eval x = v at h1
   cases h1 with
   | ptrS hr => exact ⟨_, q08q ho ht hv h2' h0 h3, .ptrS hr⟩
   | ptrP hr => exact ⟨_, q08q ho ht hv h2' h0 h3, .ptrP hr⟩
  ·rename_i r hx
   split at k
   ·rename_i l lk hr
    refine OpW.val hdst hd (fun X w0 O0 a w hs fp g => ?_) k
    have h2 := g.ev y; rw [hy] at h2; have h2' := h2.v_inv
    have h1 := g.ev x; rw [hx] at h1; have h1 := h1.own_inv
    obtain ⟨b, cs, e, fps, hb, _⟩ := g.box hr
    rw [hb, Option.some.injEq] at h1
    exact ⟨_, q08q ho ht h1.symm h2' h0 h3, by simpa using Is.ptrP hb⟩
   ·exact k.elim
  ·exact k.elim
 ·exact k.elim
end
end Go.Ab

/- The abstract layer, part 4: loads, stores, new variables. -/
namespace Go.Ab

theorem q09f : ∀ (fps : List (List Nat)) (i : Nat), (fps.set i []).flatten.Sublist fps.flatten
 | [], i => by simp
 | f :: fs, 0 => by simp
 | f :: fs, i + 1 => by simpa using List.Sublist.append_left (q09f fs i) f
theorem q0m3 : ∀ {fps : List (List Nat)} {i b : Nat}, fps.flatten.Nodup -> b ∈ fps.getD i [] -> b ∉ (fps.set i []).flatten
 | [], i, b, _, h => by simp at h
 | f :: fs, 0, b, hn, h => by
   simp only [List.flatten_cons, List.nodup_append] at hn
   simp only [List.set_cons_zero, List.flatten_cons, List.nil_append]
   exact fun hb => hn.2.2 b (by simpa using h) b hb rfl
 | f :: fs, i + 1, b, hn, h => by
   simp only [List.flatten_cons, List.nodup_append] at hn
   simp only [List.set_cons_succ, List.flatten_cons, List.mem_append, not_or]
   have h' : b ∈ fs.getD i [] := by simpa using h
   exact ⟨fun hb => hn.2.2 b hb b (q0k4 h') rfl, q0m3 hn.2.1 h'⟩
theorem q0m2 : ∀ {fps : List (List Nat)} {i : Nat}, fps.flatten.Nodup -> (fps.getD i []).Nodup
 | [], i, _ => by simp
 | f :: fs, 0, hn => by simp only [List.flatten_cons, List.nodup_append] at hn; simpa using hn.1
 | f :: fs, i + 1, hn => by simp only [List.flatten_cons, List.nodup_append] at hn; simpa using q0m2 (fps := fs) (i := i) hn.2.1
theorem q0r1 {α : Type} {l : List α} {i : Nat} {x d : α} (h : i < l.length) : (l.set i x).getD i d = x := by
 simp [List.getD_eq_getElem?_getD, h]
theorem q0r0 {α : Type} {l : List α} {i j : Nat} {x d : α} (h : i ≠ j) : (l.set i x).getD j d = l.getD j d := by
 simp [List.getD_eq_getElem?_getD, List.getElem?_set_ne h]

def T.cell : T -> Bool
 | .v x => x.oneCell'
 | .sh _ _ | .arr _ _ | .box _ | .pin _ _ | .fn _ _ | .bld _ _ _ => true
 | _ => false
theorem Ow.oneCell {w : World} {O : Nat -> Prop} {t : T} {x : Value} {fp : List Nat} (h : Ow w O t x fp) (hc : t.cell = true) : x.oneCell' = true := by
 cases h with
 | rd h => cases h <;> first | rfl | exact hc | (simp [T.cell] at hc)
 | arrNil => rfl
 | arr => rfl
 | box => rfl
 | agg => simp [T.cell] at hc
 | tup => simp [T.cell] at hc
 | bld => rfl

def Root.with : Root -> List T -> List (Nat × Nat) -> Root
 | .live (.arr s _) _, l, lk => .live (.arr s l) lk
 | .live (.box _) _, l, lk => .live (.box l) lk
 | r, _, _ => r

theorem Root.cells_spec {r : Root} {l : List T} {lk : List (Nat × Nat)} (h : r.cells = some (l, lk)) : (∃ s, r = .live (.arr s l) lk) ∨ r = .live (.box l) lk := by
 cases r with
 | free => simp [Root.cells] at h
 | dead => simp [Root.cells] at h
 | live t k => cases t <;> simp [Root.cells] at h <;> simp [h]

section
variable {P : Program} {X : Nat -> Prop} {w0 : World} {O0 : Fr} {n : Nat} {S : St} {a : Act} {w : World} {hs : Nat -> Option Value} {fp : Nat -> List Nat}

theorem Good.block (g : Good X w0 O0 n S a w hs fp) {r : Nat} {l : List T} {lk : List (Nat × Nat)} (h : (S.roots r).cells = some (l, lk)) {o : Nat} (ho : o < l.length) :
  ∃ (b : Nat) (x : Value) (cs : Array Value) (e : TypeId) (fps : List (List Nat)), hs r = some x /\ ((∃ m c, x = .slice (some ⟨b, 0, none⟩) m c) ∨ x = .pointer (some ⟨b, 0, none⟩)) ∧
    w.heap[b]? = some (.cells cs e (0, 0)) /\ l.length <= cs.size /\ fps.length = l.length /\ (∀ i (h : i < l.length), Ow w (Ob X fp) l[i] (cs.getD i undef) (fps.getD i [])) /\ fp r = b :: fps.flatten ∧
    (∀ p ∈ lk, ∃ y, w.cell? ⟨b, p.1, none⟩ = some y /\ hs p.2 = some y) ∧
    ∀ w' O' hs' (cs' : Array Value) (l' : List T) (fps' : List (List Nat)) lk', w'.heap[b]? = some (.cells cs' e (0, 0)) -> cs'.size = cs.size -> l'.length = l.length -> fps'.length = l.length →
      (∀ i (h : i < l'.length), Ow w' O' l'[i] (cs'.getD i undef) (fps'.getD i [])) -> (∀ p ∈ lk', ∃ y, w'.cell? ⟨b, p.1, none⟩ = some y /\ hs' p.2 = some y) →
      q00d w' O' hs' ((S.roots r).with l' lk') (some x) (b :: fps'.flatten) := by
 rcases Root.cells_spec h with ⟨s, hr⟩ | hr
 ·rcases g.arr hr with ⟨_, rfl, _⟩ | ⟨b, len, cap, cs, e, fps, hx, hb, hl, hc, hm, hsz, hf, hr', hfp, hle, hlk⟩
  ·simp at ho
  ·refine ⟨b, _, cs, e, fps, hx, .inl ⟨_, _, rfl⟩, hb, hle, hf, hr', hfp, hlk, fun w' O' hs' cs' l' fps' lk' h1 h2 h3 h4 h5 h6 => ?_⟩
   rw [hr]
   exact ⟨_, rfl, .arr s l' b len cap cs' e fps' h1 (by omega) hc hm (by omega) (by omega) h5, fun p hp => by obtain ⟨y, hy, hd⟩ := h6 p hp; exact ⟨y, by simpa [cellOf] using hy, hd⟩⟩
 ·obtain ⟨b, cs, e, fps, hx, hb, hl, hf, hr', hfp, hlk⟩ := g.box hr
  refine ⟨b, _, cs, e, fps, hx, .inr rfl, hb, by omega, hf, hr', hfp, hlk, fun w' O' hs' cs' l' fps' lk' h1 h2 h3 h4 h5 h6 => ?_⟩
  rw [hr]
  exact ⟨_, rfl, .box l' b cs' e fps' h1 (by omega) (by omega) h5, fun p hp => by obtain ⟨y, hy, hd⟩ := h6 p hp; exact ⟨y, by simpa [cellOf] using hy, hd⟩⟩

theorem Good.ptr_block (g : Good X w0 O0 n S a w hs fp) {r off b : Nat} {x v : Value} (hx : hs r = some x) (hb : (∃ m c, x = .slice (some ⟨b, 0, none⟩) m c) ∨ x = .pointer (some ⟨b, 0, none⟩))
  (h : Is w (Ob X fp) hs (.ptr r off) v) : v = .pointer (some ⟨b, off, none⟩) := by
 cases h with
 | ptrS hr => rw [hx] at hr; rcases hb with ⟨m, c, rfl⟩ | rfl <;> simp at hr; rw [hr.1]
 | ptrP hr => rw [hx] at hr; rcases hb with ⟨m, c, rfl⟩ | rfl <;> simp at hr; rw [hr]

theorem Good.unfold (g : Good X w0 O0 n S a w hs fp) {r o d : Nat} {l : List T} {lk : List (Nat × Nat)} {c : T} (h : (S.roots r).cells = some (l, lk)) (hc : l[o]? = some c) (hd : S.roots d = .free) (hdn : d < 1000000000) (hrt : c.rooty = true) :
  ∃ hs' fp' v, Good X w0 O0 n { S with roots := upd (upd S.roots r ((S.roots r).with (l.set o .any) ((o, d) :: lk))) d (.live c []) } a w hs' fp' /\ hs' d = some v /\ (∀ q x, hs q = some x -> hs' q = some x) ∧
    (∃ x b, hs r = some x /\ ((∃ m c, x = .slice (some ⟨b, 0, none⟩) m c) ∨ x = .pointer (some ⟨b, 0, none⟩)) /\ w.cell? ⟨b, o, none⟩ = some v) /\ (∀ b, Ob X fp' b ↔ Ob X fp b) := by
 obtain ⟨ho, rfl⟩ := List.getElem?_eq_some_iff.1 hc
 obtain ⟨b, x, cs, e, fps, hx, hxb, hb, hle, hf, hr, hfp, hlk, hmk⟩ := g.block h ho
 have hdr : d ≠ r := by rintro rfl; rw [hd] at h; simp [Root.cells] at h
 have hd' := g.root d; rw [hd] at hd'
 have hcell := q060 hb (show o < cs.size by omega)
 have hnd : fps.flatten.Nodup := by have := g.nodup r; rw [hfp] at this; exact (List.nodup_cons.1 this).2
 have hnb : b ∉ fps.flatten := by have := g.nodup r; rw [hfp] at this; exact (List.nodup_cons.1 this).1
 let fp' := upd (upd fp r (b :: (fps.set o []).flatten)) d (fps.getD o [])
 have e1 : fp' d = fps.getD o [] := q0x2 _ _ _
 have e2 : fp' r = b :: (fps.set o []).flatten := by show upd _ _ _ _ = _; rw [q0x1 _ _ _ _ (Ne.symm hdr), q0x2]
 have e3 : ∀ q, q ≠ d -> q ≠ r -> fp' q = fp q := fun q h1 h2 => by show upd _ _ _ _ = _; rw [q0x1 _ _ _ _ h1, q0x1 _ _ _ _ h2]
 have hfd : fp d = [] := hd'.2
 -- whatever lies in a footprint now lay in r's, or in its own
 have sub : ∀ q b', b' ∈ fp' q -> (q = d /\ b' ∈ fps.getD o [] /\ b' ∈ fp r) ∨ (q = r /\ b' ∈ b :: (fps.set o []).flatten /\ b' ∈ fp r) ∨ (q ≠ d /\ q ≠ r /\ b' ∈ fp q) := by
  intro q b' hq
  by_cases h1 : q = d
  ·subst h1; rw [e1] at hq; exact .inl ⟨rfl, hq, by rw [hfp]; exact List.mem_cons_of_mem _ (q0k4 hq)⟩
  ·by_cases h2 : q = r
   ·subst h2; rw [e2] at hq
    refine .inr (.inl ⟨rfl, hq, ?_⟩)
    rw [hfp]
    rcases List.mem_cons.1 hq with rfl | hq
    ·simp
    ·exact List.mem_cons_of_mem _ ((q09f fps o).subset hq)
   ·rw [e3 q h1 h2] at hq; exact .inr (.inr ⟨h1, h2, hq⟩)
 have hOb : ∀ b', Ob X fp' b' ↔ Ob X fp b' := by
  intro b'
  constructor
  ·rintro (h | ⟨q, hq⟩)
   ·exact .inl h
   ·rcases sub q b' hq with ⟨_, _, h⟩ | ⟨_, _, h⟩ | ⟨_, _, h⟩
    ·exact .inr ⟨r, h⟩
    ·exact .inr ⟨r, h⟩
    ·exact .inr ⟨q, h⟩
  ·rintro (h | ⟨q, hq⟩)
   ·exact .inl h
   ·right
    by_cases h2 : q = r
    ·subst h2
     rw [hfp] at hq
     rcases List.mem_cons.1 hq with rfl | hq
     ·exact ⟨q, by rw [e2]; simp⟩
     ·obtain ⟨f, hfm, hbf⟩ := List.mem_flatten.1 hq
      obtain ⟨i, hi, rfl⟩ := List.mem_iff_getElem.1 hfm
      by_cases hio : i = o
      ·subst hio; exact ⟨d, by rw [e1, List.getD_eq_getElem?_getD, List.getElem?_eq_getElem hi]; exact hbf⟩
      ·refine ⟨q, ?_⟩
       rw [e2]
       refine List.mem_cons_of_mem _ (List.mem_flatten.2 ⟨fps[i], ?_, hbf⟩)
       have : (fps.set o [])[i]? = some fps[i] := by rw [List.getElem?_set_ne (Ne.symm hio)]; exact List.getElem?_eq_getElem hi
       exact List.mem_of_getElem? this
    ·by_cases h1 : q = d
     ·subst h1; rw [hfd] at hq; simp at hq
     ·exact ⟨q, by rw [e3 q h1 h2]; exact hq⟩
 have hOf : Ob X fp' = Ob X fp := funext fun b' => propext (hOb b')
 have hhs : ∀ q y, hs q = some y -> upd hs d (some (cs.getD o undef)) q = some y := by
  intro q y hq
  by_cases h1 : q = d
  ·subst h1; rw [hd'.1] at hq; cases hq
  ·rw [q0x1 _ _ _ _ h1]; exact hq
 refine ⟨upd hs d (some (cs.getD o undef)), fp', cs.getD o undef, ⟨g.size, g.defers, fun i => ?_, fun q => ?_, ?_, ?_, ?_, g.xold, g.xout, ?_, g.hist, ?_, ?_, g.small, ?_⟩, q0x2 _ _ _, hhs, ⟨x, b, hx, hxb, hcell⟩, hOb⟩
 ·rw [hOf]
  exact (g.env i).mono (fun _ _ _ _ _ h => h) (fun _ h _ => h) hhs
 ·rw [hOf]
  by_cases h1 : q = d
  ·subst h1
   simp only [q0x2, e1]
   exact ⟨_, rfl, hr o ho, fun p hp => by simp at hp⟩
  ·by_cases h2 : q = r
   ·subst h2
    simp only [q0x1 _ _ _ _ h1, q0x2, hx, e2]
    refine hmk w _ _ cs _ _ _ hb rfl (by simp) (by simp [hf]) (fun i hi => ?_) ?_
    ·by_cases hio : o = i
     ·subst hio
      rw [q0r1 (by omega)]
      simp only [List.getElem_set_self]
      exact .rd (.any _)
     ·rw [q0r0 hio]
      simp only [List.getElem_set_ne hio]
      exact hr i (by simpa using hi)
    ·intro p hp
     rcases List.mem_cons.1 hp with rfl | hp
     ·exact ⟨_, hcell, q0x2 _ _ _⟩
     ·obtain ⟨y, hy, hyd⟩ := hlk p hp
      exact ⟨y, hy, hhs _ _ hyd⟩
   ·simp only [q0x1 _ _ _ _ h1, q0x1 _ _ _ _ h2, e3 q h1 h2]
    have hq := g.root q
    revert hq
    cases hS : S.roots q with
    | free => exact fun h => h
    | dead => exact fun h => h
    | live t k =>
      rintro ⟨y, hy, ho', hk⟩
      exact ⟨y, hy, ho', fun p hp => by obtain ⟨z, hz, hzd⟩ := hk p hp; exact ⟨z, hz, hhs _ _ hzd⟩⟩
 ·intro q q' b' hq hq'
  rcases sub q b' hq with ⟨rfl, h1, h1'⟩ | ⟨rfl, h1, h1'⟩ | ⟨h1, h1', h1''⟩ <;> rcases sub q' b' hq' with ⟨rfl, h2, h2'⟩ | ⟨rfl, h2, h2'⟩ | ⟨h2, h2', h2''⟩
  ·rfl
  ·rcases List.mem_cons.1 h2 with rfl | h2
   ·exact (hnb (q0k4 h1)).elim
   ·exact (q0m3 hnd h1 h2).elim
  ·exact (h2' (g.disj _ _ _ h2'' h1')).elim
  ·rcases List.mem_cons.1 h1 with rfl | h1
   ·exact (hnb (q0k4 h2)).elim
   ·exact (q0m3 hnd h2 h1).elim
  ·rfl
  ·exact (h2' (g.disj _ _ _ h2'' h1')).elim
  ·exact (h1' (g.disj _ _ _ h1'' h2')).elim
  ·exact (h1' (g.disj _ _ _ h1'' h2')).elim
  ·exact g.disj _ _ _ h1'' h2''
 ·intro q
  by_cases h1 : q = d
  ·subst h1; rw [e1]; exact q0m2 hnd
  ·by_cases h2 : q = r
   ·subst h2; rw [e2]; exact List.nodup_cons.2 ⟨fun hm => hnb ((q09f fps o).subset hm), (q09f fps o).nodup hnd⟩
   ·rw [e3 q h1 h2]; exact g.nodup q
 ·intro q b' hq
  rcases sub q b' hq with ⟨_, _, h⟩ | ⟨_, _, h⟩ | ⟨_, _, h⟩
  ·exact g.foreign _ _ h
  ·exact g.foreign _ _ h
  ·exact g.foreign _ _ h
 ·intro q b' hq
  rcases sub q b' hq with ⟨_, _, h⟩ | ⟨_, _, h⟩ | ⟨_, _, h⟩
  ·exact g.mine _ _ h
  ·exact g.mine _ _ h
  ·exact g.mine _ _ h
 ·intro q t lk' hq
  by_cases h1 : q = d
  ·subst h1; simp only [q0x2, Root.live.injEq] at hq; rw [← hq.1]; exact hrt
  ·by_cases h2 : q = r
   ·subst h2
    simp only [q0x1 _ _ _ _ h1, q0x2] at hq
    rcases Root.cells_spec h with ⟨s, hr⟩ | hr <;> rw [hr] at hq <;> simp only [Root.with, Root.live.injEq] at hq <;> rw [← hq.1] <;> rfl
   ·simp only [q0x1 _ _ _ _ h1, q0x1 _ _ _ _ h2] at hq
    exact g.rooty q t lk' hq
 ·intro q y hq
  by_cases h1 : q = d
  ·subst h1
   rw [q0x2, Option.some.injEq] at hq
   rw [← hq]
   exact (hr o ho).oneCell (by revert hrt; cases l[o] <;> simp [T.rooty, T.cell])
  ·rw [q0x1 _ _ _ _ h1] at hq; exact g.hdr q y hq
 ·intro q y hq0 hq
  by_cases h1 : q = d
  ·omega
  ·rw [q0x1 _ _ _ _ h1] at hq; exact g.pin q y hq0 hq
end

section
variable {P : Program} {n : Nat} {S : St} {K : St -> Prop}

def q0il (S : St) (r off d : Nat) (l : List T) (lk : List (Nat × Nat)) (c : T) (K : St -> Prop) : Prop :=
 match c with
 | .arr s l' => S.roots d = .free /\ K { env := upd S.env d (.own d), roots := upd (upd S.roots r ((S.roots r).with (l.set off .any) ((off, d) :: lk))) d (.live (.arr s l') []) }
 | .box l' => S.roots d = .free /\ K { env := upd S.env d (.own d), roots := upd (upd S.roots r ((S.roots r).with (l.set off .any) ((off, d) :: lk))) d (.live (.box l') []) }
 | c => c.flat = true /\ K { S with env := upd S.env d (.t c) }

def q0iw (P : Program) (t : TypeId) (x : A) (d : Nat) (S : St) (K : St -> Prop) : Prop :=
 match q0w0 P t with
 | some false => (match x with
   | .t (.pin l off) => off < l.length /\ ∀ c, l[off]? = some c -> K { S with env := upd S.env d (.t c) }
   | .ptr r off => (match (S.roots r).cells with
     | some (l, lk) => off < l.length /\ (match lk.lookup off with
       | some q => K { S with env := upd S.env d (.own q) }
       | none => ∀ c, l[off]? = some c -> q0il S r off d l lk c K)
     | none => False)
   | .own r => (match (S.roots r) with
     | .live (.box l) lk => 0 < l.length /\ (match lk.lookup 0 with
       | some q => K { S with env := upd S.env d (.own q) }
       | none => ∀ c, l[0]? = some c -> q0il S r 0 d l lk c K)
     | _ => False)
   | _ => False)
 | some true => (match q0wn P t with
   | some z => (match x with
     | .t (.pin l off) => off + z <= l.length /\ ∀ cs, (l.drop off).take z = cs -> K { S with env := upd S.env d (.t (.agg cs)) }
     | .ptr r off => (match (S.roots r).cells with
       | some (l, _) => 0 < z /\ off + z <= l.length /\ ∀ cs, (l.drop off).take z = cs -> cs.all T.flat = true /\ K { S with env := upd S.env d (.t (.agg cs)) }
       | none => False)
     | .own r => (match (S.roots r) with
       | .live (.box l) _ => 0 < z /\ z <= l.length /\ ∀ cs, l.take z = cs -> cs.all T.flat = true /\ K { S with env := upd S.env d (.t (.agg cs)) }
       | _ => False)
     | _ => False)
   | none => False)
 | none => False

theorem q08s {ρ : Operand -> Value} {o : Oper} {t : TypeId} {x : Operand} (ho : o.op = .load t x) (ht : q0w0 P t = some false) {b off : Nat} {v : Value} {w : World}
  (hx : ρ x = .pointer (some ⟨b, off, none⟩)) (hc : w.cell? ⟨b, off, none⟩ = some v) : (execOp ρ o).run P w = .ok (.value v) w := by
 simp [execOp, ho, hx, Instr.loadAt, Instr.sureAddr, q0qq ht hc]
theorem q08t {ρ : Operand -> Value} {o : Oper} {t z : TypeId} {x : Operand} (ho : o.op = .load t x) (ht : q0w0 P t = some true) (hz : q0wn P t = some z) {b off : Nat} {w : World}
  {cs : Array Value} {e : TypeId} {fz : Nat × Nat} (hx : ρ x = .pointer (some ⟨b, off, none⟩)) (hb : w.heap[b]? = some (.cells cs e fz)) (hsz : off + z <= cs.size) :
  (execOp ρ o).run P w = .ok (.value (.agg ((List.range z).map fun i => cs.getD (off + i) undef).toArray)) w := by
 have := q0qr ht hz hb hsz
 simp only [execOp, ho, hx, Instr.loadAt, Instr.sureAddr, Sem.run_bind, Sem.run_pure, Result.andThen_ok, this]

theorem q0iy {lk : List (Nat × Nat)} {k q : Nat} (h : lk.lookup k = some q) : (k, q) ∈ lk := by
 induction lk with
 | nil => simp at h
 | cons p t ih =>
   obtain ⟨a, b⟩ := p
   rw [List.lookup_cons] at h
   by_cases hk : k = a
   ·subst hk; simp at h; subst h; simp
   ·have : (k == a) = false := by simpa using hk
    rw [this] at h
    exact List.mem_cons_of_mem _ (ih h)

theorem q0mo {o : Oper} {d : Nat} {t : TypeId} {x : Operand} (ho : o.op = .load t x) (hdst : o.dst = some d) (hd : d < n) (ht : q0w0 P t = some false) {r off : Nat} {l : List T} {lk : List (Nat × Nat)}
  (hr : (S.roots r).cells = some (l, lk)) (hx : ∀ X w0 O0 a w hs fp, Good X w0 O0 n S a w hs fp -> Is w (Ob X fp) hs (.ptr r off) (a.eval x)) (hlt : off < l.length)
  (k : match lk.lookup off with | some q => K { S with env := upd S.env d (.own q) } | none => ∀ c, l[off]? = some c -> q0il S r off d l lk c K) : OpW P n o S K := by
 split at k
 ·rename_i q hq
  refine OpW.val (x := .own q) hdst hd (fun X w0 O0 a w hs fp g => ?_) k
  obtain ⟨b, y, cs, e, fps, hy, hyb, hb, hle, hf, hro, hfp, hlk, _⟩ := g.block hr hlt
  have hv := g.ptr_block hy hyb (hx X w0 O0 a w hs fp g)
  obtain ⟨z, hz, hzd⟩ := hlk _ (q0iy hq)
  exact ⟨z, q08s ho ht hv hz, .own hzd⟩
 ·have k' := k _ (List.getElem?_eq_getElem hlt)
  have own : ∀ c, l[off] = c -> c.rooty = true -> S.roots d = .free -> K { env := upd S.env d (.own d), roots := upd (upd S.roots r ((S.roots r).with (l.set off .any) ((off, d) :: lk))) d (.live c []) } -> OpW P n o S K := by
   intro c hc hrt hfree hK X w0 O0 a w hs fp g Q
   obtain ⟨b, y, cs, e, fps, hy, hyb, hb, hle, hf, hro, hfp, hlk, _⟩ := g.block hr hlt
   have hv := g.ptr_block hy hyb (hx X w0 O0 a w hs fp g)
   obtain ⟨hs', fp', v, g', hd', hh, ⟨y', b', hy', hyb', hc'⟩, hO⟩ := g.unfold (c := c) (o := off) hr (by rw [← hc]; exact List.getElem?_eq_getElem hlt) hfree (by have := g.small; omega) hrt
   have hbb : b' = b := by
    rw [hy] at hy'; cases hy'
    rcases hyb with ⟨m, c, rfl⟩ | rfl <;> rcases hyb' with ⟨m', c', h⟩ | h <;> cases h <;> rfl
   subst hbb
   unfold Oper.wp
   rw [q08s ho ht hv hc', Oper.upon_value, hdst]
   exact ⟨_, hs', fp', g'.put hd (.own hd'), hK⟩
  have flat : ∀ c, l[off] = c -> c.flat = true -> K { S with env := upd S.env d (.t c) } -> OpW P n o S K := by
   intro c hc hfl hK
   refine OpW.val (x := .t c) hdst hd (fun X w0 O0 a w hs fp g => ?_) hK
   obtain ⟨b, y, cs, e, fps, hy, hyb, hb, hle, hf, hro, hfp, hlk, _⟩ := g.block hr hlt
   have hv := g.ptr_block hy hyb (hx X w0 O0 a w hs fp g)
   have hrd := (hro off hlt).flat_rd (by rw [hc]; exact hfl)
   rw [hc] at hrd
   exact ⟨_, q08s ho ht hv (q060 hb (by omega)), .t hrd.1⟩
  generalize hc : l[off] = c at k'
  cases c with
  | arr s l' => exact own _ hc rfl k'.1 k'.2
  | box l' => exact own _ hc rfl k'.1 k'.2
  | any => exact flat _ hc k'.1 k'.2
  | v x => exact flat _ hc k'.1 k'.2
  | sh s l' => exact flat _ hc k'.1 k'.2
  | pin l' o' => exact flat _ hc k'.1 k'.2
  | fn f cp => exact flat _ hc k'.1 k'.2
  | agg l' => exact flat _ hc k'.1 k'.2
  | tup l' => exact flat _ hc k'.1 k'.2
  | glob b vs => exact flat _ hc k'.1 k'.2
  | bld a b c => exact flat _ hc k'.1 k'.2

theorem q0mp {o : Oper} {d z : Nat} {t : TypeId} {x : Operand} (ho : o.op = .load t x) (hdst : o.dst = some d) (hd : d < n) (ht : q0w0 P t = some true) (hz : q0wn P t = some z) {r off : Nat} {l : List T} {lk : List (Nat × Nat)}
  (hr : (S.roots r).cells = some (l, lk)) (hx : ∀ X w0 O0 a w hs fp, Good X w0 O0 n S a w hs fp -> Is w (Ob X fp) hs (.ptr r off) (a.eval x)) (hz0 : 0 < z) (hlt : off + z <= l.length)
  (k : ((l.drop off).take z).all T.flat = true /\ K { S with env := upd S.env d (.t (.agg ((l.drop off).take z))) }) : OpW P n o S K := by
 obtain ⟨hfl, hK⟩ := k
 ·refine OpW.val (x := .t (.agg ((l.drop off).take z))) hdst hd (fun X w0 O0 a w hs fp g => ?_) hK
  obtain ⟨b, y, cs, e, fps, hy, hyb, hb, hle, hf, hro, hfp, hlk, _⟩ := g.block hr (show off < l.length by omega)
  have hv := g.ptr_block hy hyb (hx X w0 O0 a w hs fp g)
  refine ⟨_, q08t ho ht hz hv hb (by omega), .t (.agg _ _ (by simp; omega) fun i hi => ?_)⟩
  have hi' : i < z := by simp at hi; omega
  have e1 : ((l.drop off).take z)[i] = l[off + i]'(by omega) := by simp
  have hmem : ((l.drop off).take z)[i] ∈ (l.drop off).take z := List.getElem_mem _
  have hfi := List.all_eq_true.1 hfl _ hmem
  rw [e1] at hfi
  have := (hro (off + i) (by omega)).flat_rd hfi
  rw [e1]
  simpa [List.getD_eq_getElem?_getD, hi'] using this.1

theorem q0my {o : Oper} {d : Nat} {t : TypeId} {x : Operand} (ho : o.op = .load t x) (hdst : o.dst = some d) (hd : d < n)
  (k : q0iw P t (S.ev x) d S K) : OpW P n o S K := by
 unfold q0iw at k
 split at k
 ·rename_i ht
  split at k
  ·rename_i l off hx
   obtain ⟨hlt, k⟩ := k
   refine OpW.val (x := .t l[off]) hdst hd (fun X w0 O0 a w hs fp g => ?_) (k _ (List.getElem?_eq_getElem hlt))
   have h1 := g.ev x; rw [hx] at h1
   generalize hv : a.eval x = v at h1
   cases h1 with
   | t h1 =>
     cases h1 with
     | pin _ _ b oo cs e fz hO hb hsz hr => exact ⟨_, q08s ho ht hv (q060 hb (by omega)), .t (hr off hlt)⟩
  ·rename_i r off hx
   split at k
   ·rename_i l lk hr
    exact q0mo ho hdst hd ht hr (fun X w0 O0 a w hs fp g => hx ▸ g.ev x) k.1 k.2
   ·exact k.elim
  ·rename_i r hx
   split at k
   ·rename_i l lk hr
    refine q0mo (r := r) (off := 0) (l := l) (lk := lk) ho hdst hd ht (by rw [hr]; rfl) (fun X w0 O0 a w hs fp g => ?_) k.1 k.2
    have h1 := g.ev x; rw [hx] at h1; have h1 := h1.own_inv
    obtain ⟨b, cs, e, fps, hb, _⟩ := g.box hr
    rw [hb, Option.some.injEq] at h1
    rw [← h1]; exact .ptrP hb
   ·exact k.elim
  ·exact k.elim
 ·rename_i ht
  split at k
  ·rename_i z hz
   split at k
   ·rename_i l off hx
    obtain ⟨hlt, k⟩ := k
    refine OpW.val (x := .t (.agg ((l.drop off).take z))) hdst hd (fun X w0 O0 a w hs fp g => ?_) (k _ rfl)
    have h1 := g.ev x; rw [hx] at h1
    generalize hv : a.eval x = v at h1
    cases h1 with
    | t h1 =>
      cases h1 with
      | pin _ _ b oo cs e fz hO hb hsz hr =>
        refine ⟨_, q08t ho ht hz hv hb (by omega), .t (.agg _ _ (by simp; omega) fun i hi => ?_)⟩
        have hi' : i < z := by simp at hi; omega
        have := hr (off + i) (by omega)
        simpa [List.getD_eq_getElem?_getD, hi', Nat.add_assoc] using this
   ·rename_i r off hx
    split at k
    ·rename_i l lk hr
     exact q0mp ho hdst hd ht hz hr (fun X w0 O0 a w hs fp g => hx ▸ g.ev x) k.1 k.2.1 (k.2.2 _ rfl)
    ·exact k.elim
   ·rename_i r hx
    split at k
    ·rename_i l lk hr
     refine q0mp (r := r) (off := 0) (l := l) (lk := lk) ho hdst hd ht hz (by rw [hr]; rfl) (fun X w0 O0 a w hs fp g => ?_) k.1 (by simpa using k.2.1) (by simpa using k.2.2 _ rfl)
     have h1 := g.ev x; rw [hx] at h1; have h1 := h1.own_inv
     obtain ⟨b, cs, e, fps, hb, _⟩ := g.box hr
     rw [hb, Option.some.injEq] at h1
     rw [← h1]; exact .ptrP hb
    ·exact k.elim
   ·exact k.elim
  ·exact k.elim
 ·exact k.elim
end
end Go.Ab

/- The abstract layer, part 5: giving parts of roots away; a root is laid or laid anew. -/
namespace Go.Ab

structure Inter (S : St) (fp : Nat -> List Nat) (S' : St) (fp' : Nat -> List Nat) : Prop where
 env : S'.env = S.env
 root : ∀ r, (S'.roots r = S.roots r /\ fp' r = fp r) ∨ (S'.roots r = .dead /\ fp' r = [] /\ ∃ t lk, S.roots r = .live t lk)

theorem Inter.refl (S : St) (fp : Nat -> List Nat) : Inter S fp S fp := ⟨rfl, fun _ => .inl ⟨rfl, rfl⟩⟩

def q0d8 (S : St) (a : A) (K : T -> St -> Prop) : Prop :=
 match a with
 | .t c => c.cell = true /\ K c S
 | .own q => (match S.roots q with | .live t [] => K t { S with roots := upd S.roots q .dead } | _ => False)
 | _ => False

def q0cw (S : St) : List A -> (List T -> St -> Prop) -> Prop
 | [], K => K [] S
 | a :: as, K => q0d8 S a fun t S1 => q0cw S1 as fun ts S2 => K (t :: ts) S2

section
variable {P : Program} {X : Nat -> Prop} {w0 : World} {O0 : Fr} {n : Nat} {S : St} {a : Act} {w : World} {hs : Nat -> Option Value} {fp : Nat -> List Nat}

theorem q0cz (g : Good X w0 O0 n S a w hs fp) : ∀ (as : List A) (vs : List Value) (S1 : St) (fp1 : Nat -> List Nat) (K : List T -> St -> Prop), Inter S fp S1 fp1 -> vs.length = as.length →
  (∀ i (h : i < as.length), Is w (Ob X fp) hs as[i] (vs.getD i undef)) -> q0cw S1 as K →
  ∃ (ts : List T) (S2 : St) (fp2 : Nat -> List Nat) (gs : List (List Nat)), Inter S fp S2 fp2 /\ K ts S2 /\ ts.length = as.length /\ gs.length = as.length /\ (∀ i (h : i < ts.length), Ow w (Ob X fp) ts[i] (vs.getD i undef) (gs.getD i [])) ∧
    (∀ t ∈ ts, t.cell = true) /\ gs.flatten.Nodup /\ (∀ b ∈ gs.flatten, ∃ q, b ∈ fp1 q /\ fp2 q = []) /\ (∀ r, fp1 r = [] -> fp2 r = [])
 | [], vs, S1, fp1, K, hI, hl, hi, hK => ⟨[], S1, fp1, [], hI, hK, rfl, rfl, fun i h => absurd h (by simp), by simp, by simp, by simp, fun _ h => h⟩
 | x :: as, vs, S1, fp1, K, hI, hl, hi, hK => by
   match vs, hl with
   | v :: vs, hl =>
   have hx : Is w (Ob X fp) hs x v := hi 0 (by simp)
   have hi' : ∀ i (h : i < as.length), Is w (Ob X fp) hs as[i] (vs.getD i undef) := fun i h => by have := hi (i + 1) (by simpa using h); simpa only [List.getElem_cons_succ, List.getD_cons_succ] using this
   have hl' : vs.length = as.length := by simpa using hl
   -- the head is given: what it is, which footprint, what stays
   have head : ∃ (t : T) (S2 : St) (fp2 : Nat -> List Nat) (f : List Nat), Inter S fp S2 fp2 /\ q0cw S2 as (fun ts S3 => K (t :: ts) S3) /\ Ow w (Ob X fp) t v f /\ t.cell = true /\ f.Nodup /\ (∀ b ∈ f, ∃ q, b ∈ fp1 q /\ fp2 q = []) ∧
     (∀ r, fp2 r = fp1 r ∨ fp2 r = []) := by
    simp only [q0cw, q0d8] at hK
    split at hK
    ·rename_i c _
     cases hx with
     | t h => exact ⟨c, S1, fp1, [], hI, hK.2, .rd h, hK.1, by simp, by simp, fun _ => .inl rfl⟩
    ·rename_i q _
     split at hK
     ·rename_i t hq
      have hsame : S.roots q = .live t [] /\ fp1 q = fp q := by
       rcases hI.root q with ⟨h1, h2⟩ | ⟨h1, _⟩
       ·exact ⟨by rw [← h1, hq], h2⟩
       ·rw [hq] at h1; cases h1
      have hr := g.root q
      rw [hsame.1] at hr
      obtain ⟨y, hy, ho, _⟩ := hr
      have hv : y = v := by have := hx.own_inv; rw [hy] at this; exact Option.some.inj this
      subst hv
      have hrt := g.rooty q t [] hsame.1
      refine ⟨t, { S1 with roots := upd S1.roots q .dead }, upd fp1 q [], fp q, ⟨hI.env, fun r => ?_⟩, hK, ho, by cases t <;> simp [T.rooty] at hrt <;> rfl, g.nodup q, fun b hb => ⟨q, by rw [hsame.2]; exact hb, q0x2 _ _ _⟩, fun r => ?_⟩
      ·by_cases h : r = q
       ·subst h; exact .inr ⟨q0x2 _ _ _, q0x2 _ _ _, t, [], hsame.1⟩
       ·simp only [q0x1 _ _ _ _ h]; exact hI.root r
      ·by_cases h : r = q
       ·subst h; exact .inr (q0x2 _ _ _)
       ·exact .inl (q0x1 _ _ _ _ h)
     ·exact hK.elim
    ·exact hK.elim
   obtain ⟨t, S2, fp2, f, hI2, hK2, ho, hc, hfn, hfs, hmono⟩ := head
   obtain ⟨ts, S3, fp3, gs, hI3, hK3, hlt, hlg, hos, hcs, hgn, hgs, hm3⟩ := q0cz g as vs S2 fp2 _ hI2 hl' hi' hK2
   refine ⟨t :: ts, S3, fp3, f :: gs, hI3, hK3, by simp [hlt], by simp [hlg], fun i h => ?_, fun u hu => ?_, ?_, fun b hb => ?_, fun r hr => ?_⟩
   ·cases i with
    | zero => simpa using ho
    | succ i => simpa using hos i (by simpa using h)
   ·rcases List.mem_cons.1 hu with rfl | hu
    ·exact hc
    ·exact hcs u hu
   ·rw [List.flatten_cons, List.nodup_append]
    refine ⟨hfn, hgn, fun b hb b' hb' e => ?_⟩
    subst e
    obtain ⟨q, hq1, hq2⟩ := hfs b hb
    obtain ⟨q', hq1', _⟩ := hgs b hb'
    -- b lies in fp1 q and in fp2 q': both roots are the same one, which is spent
    have h2 : b ∈ fp1 q' := by
     rcases hmono q' with h | h <;> rw [h] at hq1'
     ·exact hq1'
     ·simp at hq1'
    have sub : ∀ r, b ∈ fp1 r -> b ∈ fp r := fun r hr => by
     rcases hI.root r with ⟨_, h⟩ | ⟨_, h, _⟩ <;> rw [h] at hr
     ·exact hr
     ·simp at hr
    have : q = q' := g.disj q q' b (sub q hq1) (sub q' h2)
    subst this
    rw [hq2] at hq1'; simp at hq1'
   ·rw [List.flatten_cons, List.mem_append] at hb
    rcases hb with hb | hb
    ·obtain ⟨q, h1, h2⟩ := hfs b hb
     exact ⟨q, h1, hm3 q h2⟩
    ·obtain ⟨q, h1, h2⟩ := hgs b hb
     refine ⟨q, ?_, h2⟩
     rcases hmono q with h | h <;> rw [h] at h1
     ·exact h1
     ·simp at h1
   ·refine hm3 r ?_
    rcases hmono r with h | h
    ·rw [h, hr]
    ·exact h

theorem Good.lay (g : Good X w0 O0 n S a w hs fp) {S2 : St} {fp2 : Nat -> List Nat} (I : Inter S fp S2 fp2) (d : Nat) (t : T) (lk : List (Nat × Nat)) (x : Value) (f : List Nat) (w' : World)
  (hx : (hs d = none /\ d < 1000000000) ∨ hs d = some x) (hrt : t.rooty = true) (hos : w'.os = w.os) (htp : w'.tape = w.tape) (hout : w'.output = w.output) (hsz : w.heap.size <= w'.heap.size)
  (hkeep : ∀ b, b < w.heap.size -> (∀ q, b ∈ fp q -> q ≠ d /\ fp2 q ≠ []) -> w'.heap[b]? = w.heap[b]?)
  (hf : f.Nodup) (hfs : ∀ b ∈ f, (∃ q, b ∈ fp q /\ (q = d ∨ fp2 q = [])) ∨ w.heap.size <= b)
  (ho : ∀ O', (∀ b, ¬ Ob X fp b -> b < w.heap.size -> ¬ O' b) -> Ow w' O' t x f)
  (hlk : ∀ p ∈ lk, ∃ y, cellOf w' x p.1 = some y /\ hs p.2 = some y) :
  Good X w0 O0 n { env := S2.env, roots := upd S2.roots d (.live t lk) } a w' (upd hs d (some x)) (upd fp2 d f) := by
 have fsub : ∀ r b, b ∈ fp2 r -> b ∈ fp r /\ fp2 r = fp r /\ S2.roots r = S.roots r := fun r b hr => by
  rcases I.root r with ⟨h1, h⟩ | ⟨_, h, _⟩
  ·exact ⟨by rw [← h]; exact hr, h, h1⟩
  ·rw [h] at hr; simp at hr
 have hh : ∀ r y, hs r = some y -> upd hs d (some x) r = some y := by
  intro r y hr
  by_cases h : r = d
  ·subst h; rw [q0x2]; rcases hx with ⟨h, _⟩ | h <;> rw [h] at hr
   ·cases hr
   ·exact hr
  ·rw [q0x1 _ _ _ _ h]; exact hr
 have sub : ∀ r b, b ∈ upd fp2 d f r -> (∃ q, b ∈ fp q) ∨ w.heap.size <= b := by
  intro r b hb
  by_cases h : r = d
  ·subst h; rw [q0x2] at hb
   rcases hfs b hb with ⟨q, hq, _⟩ | h
   ·exact .inl ⟨q, hq⟩
   ·exact .inr h
  ·rw [q0x1 _ _ _ _ h] at hb; exact .inl ⟨r, (fsub r b hb).1⟩
 have hO : ∀ b, ¬ Ob X fp b -> b < w.heap.size -> ¬ Ob X (upd fp2 d f) b := by
  rintro b hn hlt (h | ⟨r, hr⟩)
  ·exact hn (.inl h)
  ·rcases sub r b hr with ⟨q, hq⟩ | h
   ·exact hn (.inr ⟨q, hq⟩)
   ·omega
 have hk : q009 (fun b => ¬ Ob X fp b) w w' := fun b cs e fz hn hb => by
  rw [hkeep b (Array.getElem?_eq_some_iff.1 hb).1 (fun q hq => (hn (.inr ⟨q, hq⟩)).elim)]; exact hb
 have disj0 : ∀ r b, r ≠ d -> b ∈ f -> b ∈ fp2 r -> False := by
  intro r b hrd hb hr
  obtain ⟨h1, h2, _⟩ := fsub r b hr
  rcases hfs b hb with ⟨q, hq, hqd⟩ | h
  ·have := g.disj q r b hq h1
   subst this
   rcases hqd with rfl | hqd
   ·exact hrd rfl
   ·rw [hqd] at hr; simp at hr
  ·have := g.lt h1; omega
 refine ⟨g.size, g.defers.keep fun D _ hD => by rw [hkeep D (Array.getElem?_eq_some_iff.1 hD).1 fun q hq => (g.notMark hD q hq).elim]; exact hD, fun i => ?_, fun r => ?_, ?_, fun r => ?_, fun r b hb => ?_, fun b hX => Nat.lt_of_lt_of_le (g.xold b hX) hsz, g.xout, fun r b hb => ?_, ?_, fun r t' lk' hr => ?_, fun r y hr => ?_, g.small, fun r y hr0 hr => ?_⟩
 ·show Is _ _ _ (S2.env i) _
  rw [I.env]; exact (g.env i).mono hk hO hh
 ·by_cases h : r = d
  ·subst h
   simp only [q0x2]
   exact ⟨x, rfl, ho _ hO, fun p hp => by obtain ⟨y, hy, hyd⟩ := hlk p hp; exact ⟨y, hy, hh _ _ hyd⟩⟩
  ·simp only [q0x1 _ _ _ _ h]
   rcases I.root r with ⟨h1, h2⟩ | ⟨h1, h2, _⟩
   ·rw [h1, h2]
    have hr := g.root r
    have hrr := g.rooty r
    revert hr
    cases hS : S.roots r with
    | free => exact fun h => h
    | dead => exact fun h => h
    | live t' lk' =>
      rintro ⟨y, hy, ho', hlk'⟩
      have hkeepf : ∀ b, b ∈ fp r -> w'.heap[b]? = w.heap[b]? := fun b hb => hkeep b (g.lt hb) fun q hq => by
       have := g.disj q r b hq hb
       subst this
       exact ⟨h, by rw [h2]; exact List.ne_nil_of_mem hb⟩
      refine ⟨y, hy, ho'.mono hk hO fun b cs e fz hb hc => by rw [hkeepf b hb]; exact hc, fun p hp => ?_⟩
      obtain ⟨z, hz, hzd⟩ := hlk' p hp
      refine ⟨z, ?_, hh _ _ hzd⟩
      have hroot := hrr _ _ hS
      generalize hfr : fp r = fr at ho' hkeepf
      cases ho' with
      | rd hh => cases hh <;> simp [T.rooty] at hroot
      | arrNil => simp [cellOf] at hz
      | arr _ _ b len cap cs e fps hb _ _ _ _ _ _ =>
        simp only [cellOf, World.cell?] at hz ⊢
        rw [hkeepf b (by simp)]; exact hz
      | box _ b cs e fps hb _ _ _ =>
        simp only [cellOf, World.cell?] at hz ⊢
        rw [hkeepf b (by simp)]; exact hz
      | bld _ _ _ b p v g hp hb hv =>
        simp only [cellOf, World.cell?] at hz ⊢
        rw [hkeepf b (by simp)]; exact hz
      | agg => simp [T.rooty] at hroot
      | tup => simp [T.rooty] at hroot
   ·rw [h1, h2]; rfl
 ·intro r r' b hr hr'
  by_cases h : r = d <;> by_cases h' : r' = d
  ·rw [h, h']
  ·subst h; rw [q0x2] at hr; rw [q0x1 _ _ _ _ h'] at hr'; exact (disj0 r' b h' hr hr').elim
  ·subst h'; rw [q0x2] at hr'; rw [q0x1 _ _ _ _ h] at hr; exact (disj0 r b h hr' hr).elim
  ·rw [q0x1 _ _ _ _ h] at hr; rw [q0x1 _ _ _ _ h'] at hr'
   exact g.disj r r' b (fsub r b hr).1 (fsub r' b hr').1
 ·by_cases h : r = d
  ·subst h; rw [q0x2]; exact hf
  ·rw [q0x1 _ _ _ _ h]
   rcases I.root r with ⟨_, h2⟩ | ⟨_, h2, _⟩ <;> rw [h2]
   ·exact g.nodup r
   ·simp
 ·rcases sub r b hb with ⟨q, hq⟩ | h
  ·exact g.foreign q b hq
  ·intro hX
   have := g.xold b hX; omega
 ·rcases sub r b hb with ⟨q, hq⟩ | h
  ·exact g.mine q b hq
  ·right; have := g.hist.size; omega
 ·refine ⟨hos.trans g.hist.os, htp.trans g.hist.tape, hout.trans g.hist.output, Nat.le_trans g.hist.size hsz, fun b hb hn => ?_⟩
  rw [hkeep b (Nat.lt_of_lt_of_le hb g.hist.size) fun q hq => ?_]
  ·exact g.hist.block b hb hn
  ·rcases g.mine q b hq with h | h
   ·exact (hn h).elim
   ·omega
 ·by_cases h : r = d
  ·subst h; simp only [q0x2, Root.live.injEq] at hr; rw [← hr.1]; exact hrt
  ·simp only [q0x1 _ _ _ _ h] at hr
   rcases I.root r with ⟨h1, _⟩ | ⟨h1, _⟩ <;> rw [h1] at hr
   ·exact g.rooty r t' lk' hr
   ·cases hr
 ·by_cases h : r = d
  ·subst h
   rw [q0x2, Option.some.injEq] at hr
   rw [← hr]
   exact (ho _ hO).oneCell (by revert hrt; cases t <;> simp [T.rooty, T.cell])
  ·rw [q0x1 _ _ _ _ h] at hr; exact g.hdr r y hr
 ·by_cases h : r = d
  ·subst h
   rw [q0x2] at hr
   rcases hx with ⟨_, h⟩ | h
   ·omega
   ·exact g.pin r y hr0 (h.trans hr)
  ·rw [q0x1 _ _ _ _ h] at hr; exact g.pin r y hr0 hr
end
end Go.Ab

/- The abstract layer, part 6: stores, new variables, composite values, new slices. -/
namespace Go.Ab

def spl {α : Type} (l : List α) (off : Nat) (xs : List α) : List α :=
 match xs with
 | [x] => l.set off x
 | xs => l.take off ++ xs ++ l.drop (off + xs.length)

theorem q0t3 {α : Type} {l : List α} {off : Nat} {xs : List α} (h : off + xs.length <= l.length) : spl l off xs = l.take off ++ xs ++ l.drop (off + xs.length) := by
 unfold spl
 split
 ·rename_i x
  rw [List.set_eq_take_append_cons_drop, if_pos (by simp at h; omega)]
  simp
 ·rfl
theorem q0t8 {α : Type} {l : List α} {off : Nat} {xs : List α} (h : off + xs.length <= l.length) : (spl l off xs).length = l.length := by
 rw [q0t3 h]; simp; omega
theorem q0t7 {α : Type} {l : List α} {off : Nat} {xs : List α} (h : off + xs.length <= l.length) (i : Nat) :
  (spl l off xs)[i]? = if off <= i /\ i < off + xs.length then xs[i - off]? else l[i]? := by
 rw [q0t3 h]
 by_cases h1 : i < off
 ·rw [if_neg (by omega), List.append_assoc, List.getElem?_append_left (by simp; omega), List.getElem?_take_of_lt h1]
 ·by_cases h2 : i < off + xs.length
  ·rw [if_pos (by omega), List.append_assoc, List.getElem?_append_right (by simp; omega), List.getElem?_append_left (by simp; omega)]
   congr 1; simp; omega
  ·rw [if_neg (by omega), List.getElem?_append_right (by simp; omega), List.getElem?_drop]
   congr 1; simp; omega
theorem q0t6 {α : Type} {l : List α} {off : Nat} {xs : List α} {d : α} (h : off + xs.length <= l.length) (i : Nat) :
  (spl l off xs).getD i d = if off <= i /\ i < off + xs.length then xs.getD (i - off) d else l.getD i d := by
 simp only [List.getD_eq_getElem?_getD, q0t7 h]; split <;> rfl

theorem q0ui (fps : List (List Nat)) (k : Nat) : (fps.take k).flatten.Sublist fps.flatten := by
 have := List.sublist_append_left (fps.take k).flatten (fps.drop k).flatten
 rwa [← List.flatten_append, List.take_append_drop] at this
theorem q089 (fps : List (List Nat)) (k : Nat) : (fps.drop k).flatten.Sublist fps.flatten := by
 have := List.sublist_append_right (fps.take k).flatten (fps.drop k).flatten
 rwa [← List.flatten_append, List.take_append_drop] at this
theorem q0t5 {fps gs : List (List Nat)} {off : Nat} (h : off + gs.length <= fps.length) {b : Nat} (hb : b ∈ (spl fps off gs).flatten) : b ∈ gs.flatten ∨ b ∈ fps.flatten := by
 rw [q0t3 h, List.flatten_append, List.flatten_append, List.mem_append, List.mem_append] at hb
 rcases hb with (hb | hb) | hb
 ·exact .inr ((q0ui _ _).subset hb)
 ·exact .inl hb
 ·exact .inr ((q089 _ _).subset hb)
theorem q0t4 {fps gs : List (List Nat)} {off : Nat} (h : off + gs.length <= fps.length) (h1 : fps.flatten.Nodup) (h2 : gs.flatten.Nodup) (hd : ∀ b ∈ gs.flatten, b ∉ fps.flatten) :
  (spl fps off gs).flatten.Nodup := by
 have e : fps = fps.take off ++ ((fps.drop off).take gs.length ++ fps.drop (off + gs.length)) := by
  rw [← List.drop_drop, List.take_append_drop, List.take_append_drop]
 have t1 : (fps.take off).flatten.Sublist fps.flatten := q0ui _ _
 have t2 : (fps.drop (off + gs.length)).flatten.Sublist fps.flatten := q089 _ _
 have hcross : ∀ a ∈ (fps.take off).flatten, ∀ b ∈ (fps.drop (off + gs.length)).flatten, a ≠ b := by
  rw [e, List.flatten_append, List.nodup_append] at h1
  intro a ha b hb
  exact h1.2.2 a ha b (by rw [List.flatten_append, List.mem_append]; exact .inr hb)
 rw [q0t3 h, List.flatten_append, List.flatten_append, List.nodup_append, List.nodup_append]
 refine ⟨⟨t1.nodup h1, h2, fun a ha b hb e => hd b hb (e ▸ t1.subset ha)⟩, t2.nodup h1, fun a ha b hb e => ?_⟩
 rcases List.mem_append.1 ha with ha | ha
 ·exact hcross a ha b hb e
 ·exact hd a ha (e ▸ t2.subset hb)

def q07j (a : A) : Option (List A) :=
 match a with
 | .t (.agg cs) => some (cs.map .t)
 | .agg as => some as
 | .tup _ => none
 | .t c => if c.cell then some [.t c] else none
 | a => some [a]

theorem cells_one {v : Value} (h : v.oneCell' = true) : v.cells = #[v] := by cases v <;> first | rfl | (simp [Value.oneCell'] at h)
theorem Is.one {w : World} {O : Nat -> Prop} {hs : Nat -> Option Value} {c : T} {v : Value} (h : Is w O hs (.t c) v) (hc : c.cell = true) : v.oneCell' = true := by
 cases h with | t h => exact (Ow.rd h).oneCell hc

theorem q07k {w : World} {O : Nat -> Prop} {hs : Nat -> Option Value} {a : A} {v : Value} {as : List A} (hh : ∀ r h, hs r = some h -> h.oneCell' = true) (h : Is w O hs a v) (hc : q07j a = some as) :
  v.cells.size = as.length /\ (∀ i (hi : i < as.length), Is w O hs as[i] (v.cells.getD i undef)) := by
 have single : ∀ (b : A) (u : Value), Is w O hs b u -> u.oneCell' = true -> u.cells.size = [b].length /\ ∀ i (hi : i < [b].length), Is w O hs [b][i] (u.cells.getD i undef) := by
  intro b u hb hu
  rw [cells_one hu]
  refine ⟨rfl, fun i hi => ?_⟩
  have : i = 0 := by simpa using hi
  subst this; exact hb
 unfold q07j at hc
 split at hc
 ·rename_i cs
  cases hc
  obtain ⟨vs, rfl, hl, hr⟩ := h.tagg_inv
  exact ⟨by simp [Value.cells, hl], fun i hi => by simpa [Value.cells, Array.getD_eq_getD_getElem?, List.getD_eq_getElem?_getD] using hr i (by simpa using hi)⟩
 ·rename_i l
  cases hc
  obtain ⟨vs, rfl, hl, hr⟩ := h.agg_inv
  exact ⟨by simp [Value.cells, hl], fun i hi => by simpa [Value.cells, Array.getD_eq_getD_getElem?, List.getD_eq_getElem?_getD] using hr i hi⟩
 ·cases hc
 ·rename_i c
  split at hc
  ·rename_i hcc; cases hc; exact single _ _ h (h.one hcc)
  ·cases hc
 ·rename_i h1 h2 h3 h4
  cases hc
  refine single _ _ h ?_
  cases h with
  | t h => exact (h4 _ rfl).elim
  | own hr => exact hh _ _ hr
  | sub _ _ => rfl
  | subZ _ => rfl
  | subNil _ => rfl
  | ptrS _ => rfl
  | ptrP _ => rfl
  | agg => exact (h2 _ rfl).elim
  | tup => exact (h3 _ rfl).elim
  | fn => rfl

def q00n (S : St) (x : A) : Option (Nat × Nat) :=
 match x with
 | .ptr r off => some (r, off)
 | .own r => (match S.roots r with | .live (.box _) _ => some (r, 0) | _ => none)
 | _ => none

def q0tm (r off z : Nat) (K : St -> Prop) (ts : List T) (S : St) : Prop :=
 match (S.roots r).cells with
 | some (l, lk) => 0 < z /\ off + z <= l.length /\ K { S with roots := upd S.roots r ((S.roots r).with (spl l off ts) (lk.filter fun p => p.1 < off || off + z <= p.1)) }
 | none => False

def q0tq (P : Program) (t : TypeId) (x v : A) (S : St) (K : St -> Prop) : Prop :=
 match q00n S x, q0wn P t, q07j v with
 | some (r, off), some z, some as => as.length = z /\ q0cw S as (q0tm r off z K)
 | _, _, _ => False

section
variable {P : Program} {n : Nat} {S : St} {K : St -> Prop} {X : Nat -> Prop} {w0 : World} {O0 : Fr} {a : Act} {w : World} {hs : Nat -> Option Value} {fp : Nat -> List Nat}

theorem Root.with_rooty {r : Root} {l l' : List T} {lk lk' : List (Nat × Nat)} (h : r.cells = some (l, lk)) : ∃ t, r.with l' lk' = .live t lk' /\ t.rooty = true := by
 rcases Root.cells_spec h with ⟨s, rfl⟩ | rfl
 ·exact ⟨_, rfl, rfl⟩
 ·exact ⟨_, rfl, rfl⟩

theorem q0nb {o : Oper} {t z : TypeId} {x v : Operand} (ho : o.op = .store t x v) (hz : q0wn P t = some z) {as : List A} (hc : q07j (S.ev v) = some as) (hl : as.length = z) {r off : Nat}
  (hx : ∀ X w0 O0 a w hs fp, Good X w0 O0 n S a w hs fp -> ∀ b x', hs r = some x' -> ((∃ m c, x' = .slice (some ⟨b, 0, none⟩) m c) ∨ x' = .pointer (some ⟨b, 0, none⟩)) -> a.eval x = .pointer (some ⟨b, off, none⟩))
  (k : q0cw S as (q0tm r off z K)) (hdst : o.dst = none) : OpW P n o S K := by
 intro X w0 O0 a w hs fp g Q
 obtain ⟨hcs, hci⟩ := q07k g.hdr (g.ev v) hc
 obtain ⟨ts, S2, fp2, gs, I, hK, hlt, hlg, hos, hcell, hgn, hgs, _⟩ := q0cz g as (a.eval v).cells.toList S fp _ (Inter.refl S fp) (by simpa using hcs)
  (fun i h => by simpa [Array.getD_eq_getD_getElem?, List.getD_eq_getElem?_getD] using hci i h) k
 unfold q0tm at hK
 split at hK
 ·rename_i l lk hr2
  obtain ⟨hz0, hlen, hK⟩ := hK
  -- the root that is written is still what it was
  have hsame : S2.roots r = S.roots r /\ fp2 r = fp r := by
   rcases I.root r with h | ⟨h, _⟩
   ·exact h
   ·rw [h] at hr2; simp [Root.cells] at hr2
  rw [hsame.1] at hr2 hK
  obtain ⟨b, y, cs, e, fps, hy, hyb, hb, hle, hf, hr, hfp, hlk, hmk⟩ := g.block hr2 (show off < l.length by omega)
  have hv := hx X w0 O0 a w hs fp g b y hy hyb
  have hlv : (a.eval v).cells.toList.length = z := by rw [Array.length_toList, hcs, hl]
  have hone : ∀ u ∈ (a.eval v).cells.toList, u.oneCell' = true := by
   intro u hu
   obtain ⟨i, hi, rfl⟩ := List.mem_iff_getElem.1 hu
   have h1 := hos i (by omega)
   have h2 := h1.oneCell (hcell _ (List.getElem_mem _))
   rwa [List.getD_eq_getElem?_getD, List.getElem?_eq_getElem hi] at h2
  have hst := run_storeCells_at P b off e (a.eval v).cells.toList 0 cs w hb (by omega) hone
  have hsize : (a.eval v).cells.size = z := by rw [hcs, hl]
  have hrun : (execOp a.eval o).run P w = .ok .skip (w.setRow b (cs.toList.take (off + 0) ++ (a.eval v).cells.toList ++ cs.toList.drop (off + 0 + (a.eval v).cells.toList.length)).toArray) := by
   have hzr := q0wo hz w
   simp only [execOp, ho, Instr.storeAt, hv, Instr.sureAddr, storeVar, Sem.run_bind, Sem.run_pure, Result.andThen_ok, hzr, hsize, ne_eq, not_true_eq_false, if_false]
   rw [hst]
   rfl
  have hspl : cs.toList.take (off + 0) ++ (a.eval v).cells.toList ++ cs.toList.drop (off + 0 + (a.eval v).cells.toList.length) = spl cs.toList off (a.eval v).cells.toList := by
   rw [q0t3 (by rw [hlv, Array.length_toList]; omega)]; rfl
  rw [hspl] at hrun
  have hw1 : (w.setRow b (spl cs.toList off (a.eval v).cells.toList).toArray).heap[b]? = some (.cells (spl cs.toList off (a.eval v).cells.toList).toArray e (0, 0)) := setRow_heap w b cs _ e _ hb
  have hw2 : ∀ k, k ≠ b -> (w.setRow b (spl cs.toList off (a.eval v).cells.toList).toArray).heap[k]? = w.heap[k]? := fun k hk => setRow_other w b k _ hk
  have hnd : (b :: fps.flatten).Nodup := by rw [← hfp]; exact g.nodup r
  have hltz : ts.length = z := by omega
  have hlen1 : off + ts.length <= l.length := by omega
  have hlen2 : off + gs.length <= fps.length := by omega
  have hlen3 : off + (a.eval v).cells.toList.length <= cs.toList.length := by rw [hlv, Array.length_toList]; omega
  have hgr : ∀ b' ∈ gs.flatten, b' ∉ fp r := by
   intro b' hb' hr'
   obtain ⟨q, hq, hq0⟩ := hgs b' hb'
   have := g.disj q r b' hq hr'
   subst this
   rw [hsame.2, hfp] at hq0; cases hq0
  obtain ⟨t', ht', hrt⟩ := Root.with_rooty (l' := spl l off ts) (lk' := lk.filter fun p => p.1 < off || off + z <= p.1) hr2
  rw [ht'] at hK
  have hRoot := fun O' (hO : ∀ b, ¬ Ob X fp b -> b < w.heap.size -> ¬ O' b) => hmk (w.setRow b (spl cs.toList off (a.eval v).cells.toList).toArray) O' hs _ (spl l off ts) (spl fps off gs) (lk.filter fun p => p.1 < off || off + z <= p.1) hw1
   (by rw [List.size_toArray, q0t8 hlen3, Array.length_toList]) (q0t8 hlen1) (by rw [q0t8 hlen2, hf]) (fun i hi => by
    have hkeep : q009 (fun b => ¬ Ob X fp b) w (w.setRow b (spl cs.toList off (a.eval v).cells.toList).toArray) := fun b' cs' e' fz' hn hb' => by
     rw [hw2 b' (fun h => hn (.inr ⟨r, by rw [hfp, h]; simp⟩))]; exact hb'
    have key : ∀ (t : T) (u : Value) (f : List Nat), Ow w (Ob X fp) t u f -> b ∉ f -> Ow (w.setRow b (spl cs.toList off (a.eval v).cells.toList).toArray) O' t u f := fun t u f h hbf =>
     h.mono hkeep hO fun b' cs' e' fz' hb' hc' => by rw [hw2 b' (fun h => hbf (h ▸ hb'))]; exact hc'
    have hil : i < l.length := by rwa [q0t8 hlen1] at hi
    have e1 : (spl l off ts)[i] = if off <= i /\ i < off + ts.length then ts.getD (i - off) .any else l.getD i .any := by
     have := q0t6 (d := T.any) hlen1 i
     rwa [List.getD_eq_getElem?_getD, List.getElem?_eq_getElem hi, Option.getD_some] at this
    have e2 : (spl cs.toList off (a.eval v).cells.toList).toArray.getD i undef = if off <= i /\ i < off + ts.length then (a.eval v).cells.toList.getD (i - off) undef else cs.getD i undef := by
     have := q0t6 (d := undef) hlen3 i
     rw [hlv, ← hltz] at this
     simpa [Array.getD_eq_getD_getElem?, List.getD_eq_getElem?_getD] using this
    have e3 : (spl fps off gs).getD i [] = if off <= i /\ i < off + ts.length then gs.getD (i - off) [] else fps.getD i [] := by
     have := q0t6 (d := ([] : List Nat)) hlen2 i
     rwa [show gs.length = ts.length by omega] at this
    rw [e1, e2, e3]
    by_cases hin : off <= i /\ i < off + ts.length
    ·simp only [if_pos hin]
     have hti : i - off < ts.length := by omega
     rw [List.getD_eq_getElem?_getD (l := ts), List.getElem?_eq_getElem hti, Option.getD_some]
     exact key _ _ _ (hos (i - off) hti) fun hm => hgr b (q0k4 hm) (by rw [hfp]; simp)
    ·simp only [if_neg hin]
     rw [List.getD_eq_getElem?_getD (l := l), List.getElem?_eq_getElem hil, Option.getD_some]
     exact key _ _ _ (hr i hil) fun hm => (List.nodup_cons.1 hnd).1 (q0k4 hm)) (fun p hp => by
    obtain ⟨hp1, hp2⟩ := List.mem_filter.1 hp
    obtain ⟨u, hu, hud⟩ := hlk p hp1
    refine ⟨u, ?_, hud⟩
    have hp2' : p.1 < off ∨ off + z <= p.1 := by simpa using hp2
    simp only [World.cell?, hw1, hb] at hu ⊢
    have := q0t7 hlen3 p.1
    rw [if_neg (by rw [hlv]; omega)] at this
    simpa [this] using hu)
  have g2 := g.lay I r t' (lk.filter fun p => p.1 < off || off + z <= p.1) y (b :: (spl fps off gs).flatten) (w.setRow b (spl cs.toList off (a.eval v).cells.toList).toArray) (.inr hy) hrt rfl rfl rfl (by simp)
   (fun b' hb' hq => hw2 b' fun h => (hq r (by rw [hfp, h]; simp)).1 rfl)
   (List.nodup_cons.2 ⟨fun hm => by
    rcases q0t5 hlen2 hm with h | h
    ·exact hgr b h (by rw [hfp]; simp)
    ·exact (List.nodup_cons.1 hnd).1 h, q0t4 hlen2 (List.nodup_cons.1 hnd).2 hgn fun b' h1 h2 => hgr b' h1 (by rw [hfp]; exact List.mem_cons_of_mem _ h2)⟩)
   (fun b' hb' => by
    left
    rcases List.mem_cons.1 hb' with rfl | hb'
    ·exact ⟨r, by rw [hfp]; simp, .inl rfl⟩
    ·rcases q0t5 hlen2 hb' with h | h
     ·obtain ⟨q, h1, h2⟩ := hgs b' h; exact ⟨q, h1, .inr h2⟩
     ·exact ⟨r, by rw [hfp]; exact List.mem_cons_of_mem _ h, .inl rfl⟩)
   (fun O' hO => by
    have := hRoot O' hO
    rw [ht'] at this
    obtain ⟨y', hy', ho', _⟩ := this
    cases hy'; exact ho')
   (fun p hp => by
    have := hRoot (fun b => Ob X fp b ∨ w.heap.size <= b) (fun b' h1 h2 h3 => h3.elim h1 (fun h3 => by omega))
    rw [ht'] at this
    obtain ⟨y', hy', _, hl'⟩ := this
    cases hy'; exact hl' p hp)
  unfold Oper.wp
  rw [hrun, Oper.upon_skip, hdst]
  exact ⟨_, _, _, g2, hK⟩
 ·exact hK.elim

theorem Good.addr (g : Good X w0 O0 n S a w hs fp) {x : A} {v : Value} {r off : Nat} (hx : q00n S x = some (r, off)) (h : Is w (Ob X fp) hs x v) (b : Nat) (y : Value) (hy : hs r = some y)
  (hyb : (∃ m c, y = .slice (some ⟨b, 0, none⟩) m c) ∨ y = .pointer (some ⟨b, 0, none⟩)) : v = .pointer (some ⟨b, off, none⟩) := by
 unfold q00n at hx
 split at hx
 ·cases hx; exact g.ptr_block hy hyb h
 ·rename_i q
  split at hx
  ·rename_i l lk hq
   cases hx
   obtain ⟨b', cs, e, fps, hb', _⟩ := g.box hq
   have h1 := h.own_inv
   rw [hy] at h1 hb'
   cases h1
   cases hb'
   rcases hyb with ⟨m, c, h⟩ | h <;> cases h
   rfl
  ·cases hx
 ·cases hx

theorem q0na {o : Oper} {t : TypeId} {x v : Operand} (ho : o.op = .store t x v) (hdst : o.dst = none) (k : q0tq P t (S.ev x) (S.ev v) S K) : OpW P n o S K := by
 unfold q0tq at k
 split at k
 ·rename_i r off z as hx hz hc
  exact q0nb ho hz hc k.1 (fun X w0 O0 a w hs fp g b y hy hyb => g.addr hx (g.ev x) b y hy hyb) k.2 hdst
 ·exact k.elim
end
end Go.Ab

/- The abstract layer, part 7: new variables, composite values, new slices, appends, conversions. -/
namespace Go.Ab

def q0ws (P : Program) (t : TypeId) : Option (List T) := ((P.info? t).bind (·.zero)).map fun z => z.cells.toList.map T.v
theorem q0wt {P : Program} {t : TypeId} {zs : List T} (h : q0ws P t = some zs) : ∃ i z, P.info? t = some i /\ i.zero = some z /\ zs = z.cells.toList.map T.v := by
 unfold q0ws at h
 cases hi : P.info? t with
 | none => simp [hi] at h
 | some i =>
   cases hz : i.zero with
   | none => simp [hi, hz] at h
   | some z => simp [hi, hz] at h; exact ⟨i, z, rfl, hz, h.symm⟩

def q265 (P : Program) (t : TypeId) : Option TypeId :=
 match P.underlying t with
 | some (.struct fs) => (match fs.toList with
   | [f0, f1] => (match P.underlying f0.type, P.underlying f1.type, ((P.info? t).bind (·.zero)).map (·.cells.toList) with
     | some (.pointer t'), some (.slice e), some [Value.pointer none, Value.slice none 0 0] => if t' = t then some e else none
     | _, _, _ => none)
   | _ => none)
 | _ => none
theorem q266 {P : Program} {t e : TypeId} (h : q265 P t = some e) : ∃ i z, P.info? t = some i /\ i.zero = some z /\ z.cells = #[.pointer none, .slice none 0 0] := by
 unfold q265 at h
 split at h
 ·split at h
  ·split at h
   ·rename_i hz
    cases hi : P.info? t with
    | none => simp [hi] at hz
    | some i =>
      cases hz2 : i.zero with
      | none => simp [hi, hz2] at hz
      | some z => simp [hi, hz2] at hz; exact ⟨i, z, rfl, hz2, by rw [← Array.toList_inj]; exact hz⟩
   ·cases h
  ·cases h
 ·cases h
def q248 : List T -> T
 | [.bld t e bs] => .bld t e bs
 | l => .box l
theorem q24b (x : Value) (l : List T) : q248 (.v x :: l) = .box (.v x :: l) := rfl
theorem q24a : q248 [] = .box [] := rfl
theorem q249 (t e : TypeId) (bs : List Value) : q248 [.bld t e bs] = .bld t e bs := rfl
theorem q24c : ∀ l : List Value, q248 (l.map T.v) = .box (l.map T.v)
 | [] => rfl
 | _ :: _ => rfl

def newK (d : Nat) (mk : List T -> T) (K : St -> Prop) (ts : List T) (S : St) : Prop :=
 S.roots d = .free /\ K { env := upd S.env d (.own d), roots := upd S.roots d (.live (mk ts) []) }

theorem q0l5 (d : Nat) (mk : List T -> T) (K : St -> Prop) (ts : List T) (S : St) :
  newK d mk K ts S = (S.roots d = .free /\ K { env := upd S.env d (.own d), roots := upd S.roots d (.live (mk ts) []) }) := rfl

def q00v (P : Program) (t : TypeId) (d : Nat) (S : St) (K : St -> Prop) : Prop :=
 match q265 P t with
 | some e => newK d q248 K [.bld t e []] S
 | none => (match q0ws P t with
   | some zs => newK d q248 K zs S
   | none => False)

def boxW (x : A) (d : Nat) (S : St) (K : St -> Prop) : Prop :=
 match q07j x with
 | some as => q0cw S as (newK d .box K)
 | none => False

section
variable {P : Program} {n : Nat} {S : St} {K : St -> Prop} {X : Nat -> Prop} {w0 : World} {O0 : Fr} {a : Act} {w : World} {hs : Nat -> Option Value} {fp : Nat -> List Nat}

theorem Good.newRow (g : Good X w0 O0 n S a w hs fp) {S2 : St} {fp2 : Nat -> List Nat} {ts : List T} {vs : List Value} {gs : List (List Nat)} (I : Inter S fp S2 fp2) (hlt : gs.length = ts.length)
  (hos : ∀ i (h : i < ts.length), Ow w (Ob X fp) ts[i] (vs.getD i undef) (gs.getD i [])) (hgn : gs.flatten.Nodup) (hgs : ∀ b ∈ gs.flatten, ∃ q, b ∈ fp q /\ fp2 q = [])
  {d : Nat} (hd : S2.roots d = .free) (hdn : d < n) (cs : Array Value) (e : TypeId) (hcs : ∀ i, i < ts.length -> cs.getD i undef = vs.getD i undef) (t : T) (x : Value) (hrt : t.rooty = true)
  (w' : World) (hw : w'.heap = w.heap.push (.cells cs e)) (hwo : w'.os = w.os) (hwt : w'.tape = w.tape) (hwp : w'.output = w.output)
  (hmk : ∀ (w' : World) (O' : Nat -> Prop), w'.heap[w.heap.size]? = some (.cells cs e (0, 0)) -> (∀ i (h : i < ts.length), Ow w' O' ts[i] (cs.getD i undef) (gs.getD i [])) -> Ow w' O' t x (w.heap.size :: gs.flatten)) :
  Good X w0 O0 n { env := upd S2.env d (.own d), roots := upd S2.roots d (.live t []) } (a.put (some d) x) w' (upd hs d (some x)) (upd fp2 d (w.heap.size :: gs.flatten)) := by
 have hnone : hs d = none := by
  have := g.root d
  rcases I.root d with ⟨h1, _⟩ | ⟨h1, _⟩ <;> rw [h1] at hd
  ·rw [hd] at this; exact this.1
  ·cases hd
 have hold : ∀ b, b < w.heap.size -> w'.heap[b]? = w.heap[b]? := fun b hb => by rw [hw, Array.getElem?_push, if_neg (by omega)]
 have hnew : w'.heap[w.heap.size]? = some (.cells cs e (0, 0)) := by rw [hw]; simp
 have hlt' : ∀ b ∈ gs.flatten, b < w.heap.size := fun b hb => by obtain ⟨q, hq, _⟩ := hgs b hb; exact g.lt hq
 have g2 := g.lay I d t [] x (w.heap.size :: gs.flatten) w' (.inl ⟨hnone, by have := g.small; omega⟩) hrt hwo hwt hwp (by rw [hw]; simp) (fun b hb _ => hold b hb)
  (List.nodup_cons.2 ⟨fun h => by have := hlt' _ h; omega, hgn⟩)
  (fun b hb => by
   rcases List.mem_cons.1 hb with rfl | hb
   ·exact .inr (Nat.le_refl _)
   ·obtain ⟨q, h1, h2⟩ := hgs b hb; exact .inl ⟨q, h1, .inr h2⟩)
  (fun O' hO => hmk w' O' hnew fun i hi => by
   rw [hcs i hi]
   exact (hos i hi).mono (fun b cs' e' fz' _ hb => by rw [hold b (Array.getElem?_eq_some_iff.1 hb).1]; exact hb) hO
    (fun b cs' e' fz' _ hb => by rw [hold b (Array.getElem?_eq_some_iff.1 hb).1]; exact hb))
  (fun p hp => by simp at hp)
 exact g2.put hdn (.own (q0x2 _ _ _))

theorem q0mf {o : Oper} {t : TypeId} {d : Nat} (ho : o.op = .alloc t) (hdst : o.dst = some d) (hd : d < n) (k : q00v P t d S K) : OpW P n o S K := by
 unfold q00v at k
 split at k
 ·rename_i e hz
  obtain ⟨hfree, hK⟩ := k
  intro X w0 O0 a w hs fp g Q
  obtain ⟨i, z, hi, hiz, hzc⟩ := q266 hz
  have hrun : (execOp a.eval o).run P w = .ok (.value (.pointer (some ⟨w.heap.size, 0, none⟩))) (w.alloc (.cells #[.pointer none, .slice none 0 0] t)) := by
   simp [execOp, ho, Instr.alloc, zeroValue, typeInfo, hi, hiz, newVar, newRow, hzc]
  have g2 := g.newRow (Inter.refl S fp) (ts := []) (vs := []) (gs := []) rfl (fun i h => by simp at h) (by simp) (by simp) hfree hd #[.pointer none, .slice none 0 0] t (fun i h => by simp at h) (.bld t e []) (.pointer (some ⟨w.heap.size, 0, none⟩)) rfl
   (w.alloc (.cells #[.pointer none, .slice none 0 0] t)) rfl rfl rfl rfl
   (fun w' O' hb hr => .bld t e [] w.heap.size (.pointer none) (.slice none 0 0) [] (.inl rfl) hb (.inl ⟨rfl, rfl, rfl⟩))
  unfold Oper.wp
  rw [hrun, Oper.upon_value, hdst]
  exact ⟨_, _, _, g2, hK⟩
 rename_i hnb
 split at k
 ·rename_i zs hz
  obtain ⟨hfree, hK⟩ := k
  intro X w0 O0 a w hs fp g Q
  obtain ⟨i, z, hi, hiz, rfl⟩ := q0wt hz
  have hrun : (execOp a.eval o).run P w = .ok (.value (.pointer (some ⟨w.heap.size, 0, none⟩))) (w.alloc (.cells z.cells t)) := by
   simp [execOp, ho, Instr.alloc, zeroValue, typeInfo, hi, hiz, newVar, newRow]
  have g2 := g.newRow (Inter.refl S fp) (ts := z.cells.toList.map T.v) (vs := z.cells.toList) (gs := List.replicate z.cells.size []) (by simp) (fun i h => by
    simp only [List.getElem_map]
    have h' : i < z.cells.toList.length := by simpa using h
    rw [List.getD_eq_getElem?_getD, List.getElem?_eq_getElem h', Option.getD_some, List.getD_eq_getElem?_getD, List.getElem?_replicate, if_pos (by simpa using h')]
    exact .rd (.v _)) (by simp) (by simp) hfree hd z.cells t (fun i h => by simp [Array.getD_eq_getD_getElem?, List.getD_eq_getElem?_getD]) (.box (z.cells.toList.map T.v)) (.pointer (some ⟨w.heap.size, 0, none⟩)) rfl
   (w.alloc (.cells z.cells t)) rfl rfl rfl rfl
   (fun w' O' hb hr => .box _ _ _ _ _ hb (by simp) (by simp) hr)
  unfold Oper.wp
  rw [hrun, Oper.upon_value, hdst]
  rw [q24c] at hK
  exact ⟨_, _, _, g2, hK⟩
 ·exact k.elim

theorem q0mk {o : Oper} {t : TypeId} {d : Nat} {x : Operand} (ho : o.op = .box t x) (hdst : o.dst = some d) (hd : d < n) (k : boxW (S.ev x) d S K) : OpW P n o S K := by
 unfold boxW at k
 split at k
 ·rename_i as hc
  intro X w0 O0 a w hs fp g Q
  obtain ⟨hcs, hci⟩ := q07k g.hdr (g.ev x) hc
  obtain ⟨ts, S2, fp2, gs, I, hK, hlt, hlg, hos, hcell, hgn, hgs, _⟩ := q0cz g as (a.eval x).cells.toList S fp _ (Inter.refl S fp) (by simpa using hcs)
   (fun i h => by simpa [Array.getD_eq_getD_getElem?, List.getD_eq_getElem?_getD] using hci i h) k
  obtain ⟨hfree, hK⟩ := hK
  have hrun : (execOp a.eval o).run P w = .ok (.value (.pointer (some ⟨w.heap.size, 0, none⟩))) (w.alloc (.cells (a.eval x).cells t)) := by
   simp [execOp, ho, Instr.box, newVar, newRow]
  have g2 := g.newRow I (by omega) hos hgn hgs hfree hd (a.eval x).cells t (fun i h => by simp [Array.getD_eq_getD_getElem?, List.getD_eq_getElem?_getD]) (.box ts) (.pointer (some ⟨w.heap.size, 0, none⟩)) rfl
   (w.alloc (.cells (a.eval x).cells t)) rfl rfl rfl rfl
   (fun w' O' hb hr => .box _ _ _ _ _ hb (by omega) (by omega) hr)
  unfold Oper.wp
  rw [hrun, Oper.upon_value, hdst]
  exact ⟨_, _, _, g2, hK⟩
 ·exact k.elim
end

-- composite values
theorem q09s : ∀ (vs : List Value) (k off : Nat) (cs : Array Value) (i : Nat),
  ((vs.zipIdx k).foldl (fun cs (p : Value × Nat) => cs.setIfInBounds (off + p.2) p.1) cs)[i]? = if off + k <= i /\ i < off + k + vs.length /\ i < cs.size then vs[i - (off + k)]? else cs[i]?
 | [], k, off, cs, i => by simp; omega
 | v :: vs, k, off, cs, i => by
   simp only [List.zipIdx_cons, List.foldl_cons]
   rw [q09s vs (k + 1) off _ i]
   simp only [Array.size_setIfInBounds, List.length_cons]
   by_cases h1 : off + (k + 1) <= i /\ i < off + (k + 1) + vs.length /\ i < cs.size
   ·rw [if_pos h1, if_pos (by omega), show i - (off + k) = (i - (off + (k + 1))) + 1 by omega, List.getElem?_cons_succ]
   ·rw [if_neg h1, Array.getElem?_setIfInBounds]
    by_cases h2 : off + k = i
    ·subst h2
     by_cases h3 : off + k < cs.size
     ·rw [if_pos rfl, if_pos h3, if_pos (by omega)]; simp
     ·rw [if_pos rfl, if_neg h3, if_neg (by omega)]; simp; omega
    ·rw [if_neg h2, if_neg (by omega)]
theorem q0rj : ∀ (vs : List Value) (k off : Nat) (cs : Array Value), ((vs.zipIdx k).foldl (fun cs (p : Value × Nat) => cs.setIfInBounds (off + p.2) p.1) cs).size = cs.size
 | [], k, off, cs => rfl
 | v :: vs, k, off, cs => by simp only [List.zipIdx_cons, List.foldl_cons]; rw [q0rj vs (k + 1)]; simp

def q08z (place : Nat -> Option (Nat × Nat)) : List A -> List (Nat × A) -> Option (List A)
 | cells, [] => some cells
 | cells, (i, x) :: rest =>
   match place i, q07j x with
   | some (off, z), some cs => if cs.length = z /\ off + z <= cells.length then q08z place (spl cells off cs) rest else none
   | _, _ => none

theorem q090 {p q : Nat -> Option (Nat × Nat)} (h : ∀ i x, p i = some x -> q i = some x) : ∀ (ps : List (Nat × A)) (cells r : List A), q08z p cells ps = some r -> q08z q cells ps = some r
 | [], cells, r, hr => hr
 | (i, x) :: rest, cells, r, hr => by
   rw [q08z] at hr ⊢
   split at hr
   ·rename_i off z cs h1 h2
    rw [h i _ h1, h2]
    simp only []
    split at hr
    ·rename_i h3
     rw [if_pos h3]
     exact q090 h rest _ r hr
    ·cases hr
   ·cases hr
theorem q092 {w : World} {O : Nat -> Prop} {hs : Nat -> Option Value} (hh : ∀ r h, hs r = some h -> h.oneCell' = true) {place : Nat -> Option (Nat × Nat)} :
  ∀ (ps : List (Nat × A)) (vals : List (Nat × Value)) (as as' : List A) (cells : Array Value), ps.map (·.1) = vals.map (·.1) -> (∀ i (h : i < ps.length), Is w O hs ps[i].2 ((vals[i]?.map (·.2)).getD undef)) →
  cells.size = as.length -> (∀ i (h : i < as.length), Is w O hs as[i] (cells.getD i undef)) -> q08z place as ps = some as' →
  ∃ cells', Instr.fill place cells vals = some cells' /\ cells'.size = as'.length /\ ∀ i (h : i < as'.length), Is w O hs as'[i] (cells'.getD i undef)
 | [], [], as, as', cells, _, _, hs1, hi1, hf => by simp [q08z] at hf; subst hf; exact ⟨cells, rfl, hs1, hi1⟩
 | [], v :: vs, as, as', cells, hk, _, _, _, _ => by simp at hk
 | p :: ps, [], as, as', cells, hk, _, _, _, _ => by simp at hk
 | (k, x) :: ps, (k', v) :: vs, as, as', cells, hk, hp, hs1, hi1, hf => by
   simp only [List.map_cons, List.cons.injEq] at hk
   obtain ⟨rfl, hk⟩ := hk
   have hx : Is w O hs x v := by have := hp 0 (by simp); simpa only [List.getElem_cons_zero, List.getElem?_cons_zero, Option.map_some, Option.getD_some] using this
   simp only [q08z] at hf
   split at hf
   ·rename_i off z cs hpl hc
    split at hf
    ·rename_i hcond
     obtain ⟨hcz, hle⟩ := hcond
     obtain ⟨hvs, hvi⟩ := q07k hh hx hc
     have hlen : off + cs.length <= as.length := by omega
     have hstep : ∀ i (h : i < (spl as off cs).length), Is w O hs (spl as off cs)[i] ((v.cells.zipIdx.foldl (fun cs (c, j) => cs.setIfInBounds (off + j) c) cells).getD i undef) := by
      intro i hi
      rw [q0t8 hlen] at hi
      have e1 := q0t7 hlen i
      rw [List.getElem?_eq_getElem (by rw [q0t8 hlen]; exact hi)] at e1
      have e2 : (v.cells.zipIdx.foldl (fun cs (c, j) => cs.setIfInBounds (off + j) c) cells)[i]? = if off <= i /\ i < off + cs.length then v.cells.toList[i - off]? else cells[i]? := by
       have := q09s v.cells.toList 0 off cells i
       rw [← Array.foldl_toList, Array.toList_zipIdx]
       refine Eq.trans this ?_
       have : v.cells.toList.length = cs.length := by simpa using hvs
       rw [this]
       by_cases h : off <= i /\ i < off + cs.length
       ·rw [if_pos (by omega), if_pos h]; rfl
       ·rw [if_neg (by omega), if_neg h]
      rw [Array.getD_eq_getD_getElem?, e2]
      by_cases h : off <= i /\ i < off + cs.length
      ·rw [if_pos h] at e1 ⊢
       have hj : i - off < cs.length := by omega
       rw [List.getElem?_eq_getElem hj, Option.some.injEq] at e1
       rw [e1]
       simpa [Array.getD_eq_getD_getElem?] using hvi (i - off) hj
      ·rw [if_neg h] at e1 ⊢
       rw [List.getElem?_eq_getElem hi, Option.some.injEq] at e1
       rw [e1]
       simpa [Array.getD_eq_getD_getElem?] using hi1 i hi
     obtain ⟨cells', hc1, hc2, hc3⟩ := q092 hh ps vs (spl as off cs) as' (v.cells.zipIdx.foldl (fun cs (c, j) => cs.setIfInBounds (off + j) c) cells) hk
      (fun i h => by have := hp (i + 1) (by simpa using h); simpa only [List.getElem_cons_succ, List.getElem?_cons_succ] using this)
      (by rw [q0t8 hlen, ← Array.foldl_toList, Array.toList_zipIdx]; exact (q0rj v.cells.toList 0 off cells).trans hs1) hstep hf
     refine ⟨cells', ?_, hc2, hc3⟩
     rw [Instr.fill, hpl]
     simp only
     rw [if_neg (by simp; omega)]
     exact hc1
    ·cases hf
   ·cases hf
end Go.Ab

/- The abstract layer, part 8: composites, new slices, appends, conversions, parts of slices. -/
namespace Go.Ab

def q0we (P : Program) (t : TypeId) : Option (List (Nat × Nat)) :=
 match P.underlying t with
 | some (.struct fs) => fs.toList.mapM fun f => (P.info? f.type).map fun i => (f.offset, i.size)
 | _ => none
def q0w2 (P : Program) (t : TypeId) : Option Nat :=
 match P.underlying t with
 | some (.array _ e) => (P.info? e).map (·.size)
 | _ => none

def q0wl (P : Program) (t : TypeId) (i : Nat) : Option (Nat × Nat) :=
 match q0we P t with
 | some ps => ps[i]?
 | none => (q0w2 P t).map fun z => (i * z, z)

def q02z (P : Program) (t : TypeId) (parts : List (Nat × A)) (K : A -> Prop) : Prop :=
 match q0ws P t with
 | some zs => ((q0we P t).isSome = true ∨ (q0w2 P t).isSome = true) /\ (match q08z (q0wl P t) (zs.map .t) parts with
   | some as => K (.agg as)
   | none => False)
 | none => False

section
variable {P : Program} {n : Nat} {S : St} {K : St -> Prop} {X : Nat -> Prop} {w0 : World} {O0 : Fr} {a : Act} {w : World} {hs : Nat -> Option Value} {fp : Nat -> List Nat}

theorem q091 {place : Nat -> Option (Nat × Nat)} : ∀ {vals : List (Nat × Value)} {cells cells' : Array Value}, Instr.fill place cells vals = some cells' -> cells'.size = cells.size
 | [], cells, cells', h => by simp [Instr.fill] at h; rw [h]
 | (i, v) :: rest, cells, cells', h => by
   rw [Instr.fill] at h
   split at h
   ·cases h
   ·split at h
    ·cases h
    ·have := q091 h
     rw [this, ← Array.foldl_toList, Array.toList_zipIdx]
     exact q0rj v.cells.toList 0 _ cells

theorem q0mm {o : Oper} {t : TypeId} {d : Nat} {parts : Array (Nat × Operand)} (ho : o.op = .build t parts) (hdst : o.dst = some d) (hd : d < n)
  (k : q02z P t (parts.toList.map fun p => (p.1, S.ev p.2)) (putK S d K)) : OpW P n o S K := by
 unfold q02z at k
 split at k
 ·rename_i zs hz
  obtain ⟨hkind, k⟩ := k
  split at k
  ·rename_i as hf
   obtain ⟨i0, z, hi0, hiz, rfl⟩ := q0wt hz
   refine OpW.val (x := .agg as) hdst hd (fun X w0 O0 a w hs fp g => ?_) k
   have hval : parts.toList.map (fun p => (p.1, a.eval p.2)) = (parts.map fun (i, x) => (i, a.eval x)).toList := by simp
   obtain ⟨cells', hc1, hc2, hc3⟩ := q092 g.hdr (place := q0wl P t) (parts.toList.map fun p => (p.1, S.ev p.2)) (parts.toList.map fun p => (p.1, a.eval p.2)) _ as z.cells (by simp)
    (fun i hi => by
     have hi' : i < parts.toList.length := by simpa using hi
     simp only [List.getElem_map, List.getElem?_map, List.getElem?_eq_getElem hi', Option.map_some, Option.getD_some]
     exact g.ev _) (by simp) (fun i hi => by
     have hi' : i < z.cells.size := by simpa using hi
     simp only [List.getElem_map]
     have : z.cells.getD i undef = z.cells.toList[i]'(by simpa using hi') := by simp [Array.getD_eq_getD_getElem?, hi']
     rw [this]; exact .t (.v _)) hf
   have hagg : Is w (Ob X fp) hs (.agg as) (.agg cells') := by
    have := Is.agg (w := w) (O := Ob X fp) (hs := hs) (l := as) (vs := cells'.toList) (by simp [hc2]) (fun i hi => by simpa [Array.getD_eq_getD_getElem?, List.getD_eq_getElem?_getD] using hc3 i hi)
    simpa using this
   refine ⟨.agg cells', ?_, hagg⟩
   have hbuilt : P.built t (parts.map fun (i, x) => (i, a.eval x)).toList = some cells' := by
    rw [← hval, ← hc1]
    unfold Program.built
    unfold q0we q0w2 at hkind
    cases hu : P.underlying t with
    | none => simp [hu] at hkind
    | some dd =>
      cases dd with
      | array m e =>
        simp only [hu, Option.isSome_none, Bool.false_eq_true, false_or] at hkind
        cases hie : P.info? e with
        | none => simp [hie] at hkind
        | some ie =>
          simp only [hi0, hiz, hie]
          congr 1
          funext i
          simp [q0wl, q0we, q0w2, hu, hie]
      | struct fs =>
        simp only [hu, Option.isSome_none, Bool.false_eq_true, or_false] at hkind
        cases hp : fs.toList.mapM (fun f => (P.info? f.type).map fun i => (f.offset, i.size)) with
        | none => rw [hp] at hkind; simp at hkind
        | some places =>
          simp only [hi0, hiz, hp]
          congr 1
          funext i
          simp only [q0wl, q0we, hu, hp]
          simp
      | _ => simp [hu] at hkind
   simp [execOp, ho, run_build w t _ cells' hbuilt]
  ·exact k.elim
 ·exact k.elim

def q02y (P : Program) (t : TypeId) (len d : Nat) (parts : List (Nat × A)) (S : St) (K : St -> Prop) : Prop :=
 match tyEs P t with
 | some z => len * z <= 16777216 /\ 0 < z /\ (match q08z (fun i => some (i * z, z)) (List.replicate (len * z) (.t .any)) parts with
   | some as => q0cw S as (newK d (.arr z) K)
   | none => False)
 | none => False

theorem q0mn {o : Oper} {t : TypeId} {d len : Nat} {parts : Array (Nat × Operand)} (ho : o.op = .buildSlice t len parts) (hdst : o.dst = some d) (hd : d < n) {e : TypeId} (he : q0w9 P t = some e) (hze : (q0ws P e).isSome = true)
  (k : q02y P t len d (parts.toList.map fun p => (p.1, S.ev p.2)) S K) : OpW P n o S K := by
 unfold q02y at k
 split at k
 ·rename_i z hz
  obtain ⟨hsmall, hz0, k⟩ := k
  split at k
  ·rename_i as hf
   obtain ⟨e', ie, hu, hi, hiz⟩ := q0wb hz
   have hee : e' = e := by have := q0wa he; rw [hu] at this; cases this; rfl
   subst hee
   intro X w0 O0 a w hs fp g Q
   obtain ⟨zs, hzs⟩ := Option.isSome_iff_exists.1 hze
   obtain ⟨i1, zv, hi1, hizv, _⟩ := q0wt hzs
   have : ie = i1 := by rw [hi] at hi1; cases hi1; rfl
   subst this
   let zero : Array Value := if len * z = 0 then #[] else zv.cells
   have hval : parts.toList.map (fun p => (p.1, a.eval p.2)) = (parts.map fun (i, x) => (i, a.eval x)).toList := by simp
   obtain ⟨cells', hc1, hc2, hc3⟩ := q092 g.hdr (place := fun i => some (i * z, z)) (parts.toList.map fun p => (p.1, S.ev p.2)) (parts.toList.map fun p => (p.1, a.eval p.2)) _ as ((Array.range (len * z)).map (zero[· % zero.size]!)) (by simp)
    (fun i hi => by
     have hi' : i < parts.toList.length := by simpa using hi
     simp only [List.getElem_map, List.getElem?_map, List.getElem?_eq_getElem hi', Option.map_some, Option.getD_some]
     exact g.ev _) (by simp) (fun i hi => by simp only [List.getElem_replicate]; exact .t (.any _)) hf
   rw [hval] at hc1
   have hrun : (execOp a.eval o).run P w = .ok (.value (.slice (some ⟨w.heap.size, 0, none⟩) len len)) (w.alloc (.cells cells' e')) := by
    have hn : ¬ (len * z > 2 ^ 24) := by omega
    have hszr : (Go.sizeOf e').run P w = .ok z w := q0wo (by unfold q0wn; rw [hi]; simp [hiz]) w
    have hzr : (zeroValue e').run P w = .ok zv w := by simp [zeroValue, typeInfo, hi, hizv]
    simp only [execOp, ho, Instr.buildSlice, Sem.run_bind, run_underlying hu, Result.andThen_ok, hszr]
    rw [if_neg hn]
    by_cases h0 : len * z = 0
    ·have hzz : zero = #[] := by simp [zero, h0]
     rw [hzz] at hc1
     simp only [h0, if_true, Sem.run_pure, Result.andThen_ok, Sem.run_bind]
     rw [h0] at hc1
     rw [hc1]
     simp [newRow]
    ·have hzz : zero = zv.cells := by simp [zero, h0]
     rw [hzz] at hc1
     simp only [h0, if_false, Sem.run_bind, hzr, Result.andThen_ok, Sem.run_pure]
     rw [hc1]
     simp [newRow]
   obtain ⟨ts, S2, fp2, gs, I, hK, hlt, hlg, hos, hcell, hgn, hgs, _⟩ := q0cz g as cells'.toList S fp _ (Inter.refl S fp) (by simpa using hc2)
    (fun i h => by simpa [Array.getD_eq_getD_getElem?, List.getD_eq_getElem?_getD] using hc3 i h) k
   obtain ⟨hfree, hK⟩ := hK
   have hlen : as.length = len * z := by
    have : cells'.size = len * z := by
     have hsz := q091 hc1
     simpa using hsz
    omega
   have g2 := g.newRow I (by omega) hos hgn hgs hfree hd cells' e' (fun i h => by simp [Array.getD_eq_getD_getElem?, List.getD_eq_getElem?_getD]) (.arr z ts) (.slice (some ⟨w.heap.size, 0, none⟩) len len) rfl
    (w.alloc (.cells cells' e')) rfl rfl rfl rfl
    (fun w' O' hb hr => .arr z ts _ len len cells' e' gs hb (by omega) (Nat.le_refl _) (by unfold maxLen; have := Nat.le_mul_of_pos_right len hz0; omega) (by omega) (by omega) hr)
   unfold Oper.wp
   rw [hrun, Oper.upon_value, hdst]
   exact ⟨_, _, _, g2, hK⟩
  ·exact k.elim
 ·exact k.elim
end
end Go.Ab

/- The abstract layer, part 9: make, append, conversions, parts of slices, function values. -/
namespace Go.Ab

def made (zs : List T) (m : Nat) : List T :=
 match zs with
 | [z] => List.replicate m z
 | zs => (List.range (m * zs.length)).map fun i => zs.getD (i % zs.length) .any

theorem q0ob {i m k : Nat} (h : i < m * k) : 0 < k := Nat.pos_of_ne_zero fun h0 => by rw [h0] at h; simp at h
theorem q0jb (zs : List T) (m : Nat) : (made zs m).length = m * zs.length := by
 unfold made; split <;> simp
theorem q0ja {zs : List T} {m i : Nat} (h : i < m * zs.length) : (made zs m)[i]? = zs[i % zs.length]? := by
 have hp : 0 < zs.length := q0ob h
 have hm : i % zs.length < zs.length := Nat.mod_lt _ hp
 unfold made
 split
 ·simp at h ⊢; simp [List.getElem?_replicate, h, Nat.mod_one]
 ·rw [List.getElem?_map, List.getElem?_range h]; simp [List.getElem?_eq_getElem hm]

def q0je (P : Program) (t : TypeId) (l c : A) (d : Nat) (S : St) (K : St -> Prop) : Prop :=
 match q0w9 P t, l, c with
 | some e, .t (.v (.int _ m)), .t (.v (.int _ m')) => m' = m /\ 0 <= m /\ (match q0ws P e, q0w7 P e with
   | some zs, some by_ => 0 < by_ /\ m * by_ <= 281474976710656 /\ newK d (.arr zs.length) K (made zs m.toNat) S
   | _, _ => False)
 | _, _, _ => False

section
variable {P : Program} {n : Nat} {S : St} {K : St -> Prop} {X : Nat -> Prop} {w0 : World} {O0 : Fr} {a : Act} {w : World} {hs : Nat -> Option Value} {fp : Nat -> List Nat}

theorem q0n0 {o : Oper} {t : TypeId} {d : Nat} {l c : Operand} (ho : o.op = .makeSlice t l c) (hdst : o.dst = some d) (hd : d < n) {e : TypeId} (he : q0w9 P t = some e) (hsz : ∀ zs, q0ws P e = some zs -> q0wn P e = some zs.length)
  (k : q0je P t (S.ev l) (S.ev c) d S K) : OpW P n o S K := by
 unfold q0je at k
 split at k
 ·rename_i e' k1 m k2 m' he' hl hc
  obtain ⟨rfl, hm0, k⟩ := k
  have : e' = e := by rw [he] at he'; cases he'; rfl
  subst this
  split at k
  ·rename_i zs by_ hz hby
   obtain ⟨hby0, hle, hfree, hK⟩ := k
   intro X w0 O0 a w hs fp g Q
   obtain ⟨i, z, hi, hiz, hzs⟩ := q0wt hz
   obtain ⟨i', hi', hbi⟩ := q0w8 hby
   have : i' = i := by rw [hi] at hi'; cases hi'; rfl
   subst this
   obtain ⟨i'', hi'', hsi⟩ := q0wp (hsz zs hz)
   have : i'' = i' := by rw [hi] at hi''; cases hi''; rfl
   subst this
   have h1 := g.ev l; rw [hl] at h1; have h1 := h1.v_inv
   have h2 := g.ev c; rw [hc] at h2; have h2 := h2.v_inv
   have hm63 : m' <= 281474976710656 := by
    have := Int.mul_le_mul_of_nonneg_left (show (1 : Int) <= (by_ : Int) by omega) hm0; omega
   have hr := run_make (P := P) w t e' i'' z (q0wa he) hi hiz k1 k2 m' m' hm0 (Int.le_refl _) (by rw [hbi, Int.mul_comm]; exact hle) (by omega)
   have hlen : z.cells.size = zs.length := by rw [hzs]; simp
   have hmc : ∀ j, (madeCells z.cells (m'.toNat * i''.size)).getD j undef = if j < m'.toNat * zs.length then z.cells.toList.getD (j % zs.length) undef else undef := by
    intro j
    rw [hsi]
    simp only [madeCells, Array.getD_eq_getD_getElem?, Array.getElem?_map]
    by_cases hj : j < m'.toNat * zs.length
    ·have hp : 0 < zs.length := q0ob hj
     have hnz : ¬ m'.toNat * zs.length = 0 := by omega
     have hmod : j % zs.length < z.cells.size := by rw [hlen]; exact Nat.mod_lt _ hp
     rw [if_pos hj]
     simp [hj, hnz, hlen, List.getD_eq_getElem?_getD]
     rw [getElem!_pos z.cells _ hmod, Array.getElem?_eq_getElem hmod]; rfl
    ·rw [if_neg hj]; simp [hj]
   have hrun : (execOp a.eval o).run P w = .ok (.value (.slice (some ⟨w.heap.size, 0, none⟩) m'.toNat m'.toNat)) (w.alloc (.cells (madeCells z.cells (m'.toNat * i''.size)) e')) := by
    simp only [execOp, ho, h1, h2, Sem.run_bind, hr, Result.andThen_ok, Sem.run_pure]
   have hml := q0jb zs m'.toNat
   have g2 := g.newRow (Inter.refl S fp) (ts := made zs m'.toNat) (vs := (madeCells z.cells (m'.toNat * i''.size)).toList) (gs := List.replicate (made zs m'.toNat).length []) (by simp) (fun j h => by
     have hj : j < m'.toNat * zs.length := by rwa [hml] at h
     have e1 := q0ja hj
     rw [List.getElem?_eq_getElem h] at e1
     have hp : 0 < zs.length := q0ob hj
     have hmod : j % zs.length < zs.length := Nat.mod_lt _ hp
     have e2 : (made zs m'.toNat)[j] = T.v (z.cells.toList.getD (j % zs.length) undef) := by
      have hmod' : j % zs.length < z.cells.toList.length := by have h5 : z.cells.toList.length = z.cells.size := Array.length_toList; omega
      have : zs[j % zs.length]? = some (T.v (z.cells.toList.getD (j % zs.length) undef)) := by
       rw [List.getD_eq_getElem?_getD, List.getElem?_eq_getElem hmod', Option.getD_some]
       conv => lhs; rw [hzs]
       rw [List.getElem?_map]
       have hmod'' : j % (z.cells.toList.map T.v).length = j % zs.length := by rw [hzs]
       rw [hmod'', List.getElem?_eq_getElem hmod']; rfl
      rw [this] at e1; exact Option.some.inj e1
     rw [e2, List.getD_eq_getElem?_getD (l := List.replicate _ _), List.getElem?_replicate, if_pos h]
     have := hmc j
     rw [if_pos hj] at this
     rw [← this, List.getD_eq_getElem?_getD, Array.getD_eq_getD_getElem?, Array.getElem?_toList]
     exact .rd (.v _)) (by simp) (by simp) hfree hd (madeCells z.cells (m'.toNat * i''.size)) e' (fun j h => by simp [Array.getD_eq_getD_getElem?, List.getD_eq_getElem?_getD])
    (.arr zs.length (made zs m'.toNat)) (.slice (some ⟨w.heap.size, 0, none⟩) m'.toNat m'.toNat) rfl (w.alloc (.cells (madeCells z.cells (m'.toNat * i''.size)) e')) rfl rfl rfl rfl
    (fun w' O' hb hr => .arr _ _ _ _ _ _ e' _ hb hml (Nat.le_refl _) (by unfold maxLen; omega) (by rw [size_madeCells, hsi]) (by simp) hr)
   unfold Oper.wp
   rw [hrun, Oper.upon_value, hdst]
   simp only [List.flatten_replicate_nil] at g2
   exact ⟨_, _, _, g2, hK⟩
  ·exact k.elim
 ·exact k.elim
end
end Go.Ab

/- The abstract layer, part 10: append. -/
namespace Go.Ab

section
variable {P : Program} (w : World)
theorem q0qu (t ty e e0 : TypeId) (i : TypeInfo) (ht : P.underlying t = some (.slice e)) (hi : P.info? e = some i)
  (g sLen sCap : Nat) (cur : Array Value) (hg : w.heap[g]? = some (.cells cur e0 (0, 0)))
  (a : Addr) (m c : Nat) (news : List Value) (hl : news.length = m * i.size) (hnews : ∀ j u, news[j]? = some u -> w.cell? (a.add j) = some u) (h1 : ∀ u ∈ news, u.oneCell' = true)
  (hroom : sLen + m <= sCap) (hfit : sLen * i.size + news.length <= cur.size) :
  (Builtin.append_ #[t, t] ty #[.slice (some ⟨g, 0, none⟩) sLen sCap, .slice (some a) m c]).run P w =
   .ok (.slice (some ⟨g, 0, none⟩) (sLen + m) sCap) (w.setRow g (cur.toList.take (sLen * i.size) ++ news ++ cur.toList.drop (sLen * i.size + news.length)).toArray) := by
 have hf := run_firstCells_some (P := P) w i.size m a m c news hl hnews
 have hst := run_storeCells_at P g (sLen * i.size) e0 news 0 cur w hg (by simpa using hfit) h1
 simp only [Nat.add_zero] at hst
 simp [Builtin.append_, run_underlying ht, Go.sizeOf, typeInfo, hi, Builtin.lenOf, hroom, hf, Addr.add_lit, hst]

theorem q0qt (t ty e : TypeId) (i : TypeInfo) (ht : P.underlying t = some (.slice e)) (hi : P.info? e = some i) (b : Option Addr) (sLen sCap : Nat) (h : sLen <= sCap) :
  (Builtin.append_ #[t, t] ty #[.slice b sLen sCap, .slice none 0 0]).run P w = .ok (.slice b sLen sCap) w := by
 cases b <;> simp [Builtin.append_, run_underlying ht, Go.sizeOf, typeInfo, hi, Builtin.lenOf, h, Builtin.firstCells, storeCells]

theorem q0ql (t ty e : TypeId) (i : TypeInfo) (z : Value) (ht : P.underlying t = some (.slice e)) (hi : P.info? e = some i) (hz : i.zero = some z) (hzs : z.cells.size = i.size)
  (v : Value) (k : Nat) (xs : List Value) (hxs : xs.length = k * i.size)
  (hv : (v = .slice none 0 0 /\ k = 0) ∨ ∃ g cap cur e0, v = .slice (some ⟨g, 0, none⟩) k cap /\ w.heap[g]? = some (.cells cur e0 (0, 0)) /\ k <= cap /\ cap <= maxLen /\ cur.size = cap * i.size /\ cur.toList.take (k * i.size) = xs)
  (u : Value) (m : Nat) (news : List Value) (hl : news.length = m * i.size) (h1 : ∀ u ∈ news, u.oneCell' = true)
  (hu : (u = .slice none 0 0 /\ m = 0) ∨ ∃ ad c, u = .slice (some ad) m c /\ ∀ j y, news[j]? = some y -> w.cell? (ad.add j) = some y)
  (h63 : k + m <= maxLen) (hbytes : (k + m) * i.bytes <= 140737488355328) :
  ∃ v' w', (Builtin.append_ #[t, t] ty #[v, u]).run P w = .ok v' w' /\ w'.os = w.os /\ w'.tape = w.tape /\ w'.output = w.output ∧
    ((∃ cap' cs', v' = .slice (some ⟨w.heap.size, 0, none⟩) (k + m) cap' /\ w'.heap = w.heap.push (.cells cs' e) /\ k + m <= cap' /\ cap' <= maxLen /\ cs'.size = cap' * i.size /\ cs'.toList.take ((k + m) * i.size) = xs ++ news) ∨
     (∃ g cap cur e0 cs', v = .slice (some ⟨g, 0, none⟩) k cap /\ w.heap[g]? = some (.cells cur e0 (0, 0)) /\ v' = .slice (some ⟨g, 0, none⟩) (k + m) cap /\ w'.heap.size = w.heap.size /\ w'.heap[g]? = some (.cells cs' e0 (0, 0)) ∧
        (∀ b, b ≠ g -> w'.heap[b]? = w.heap[b]?) /\ k + m <= cap /\ cs'.size = cap * i.size /\ cs'.toList.take ((k + m) * i.size) = xs ++ news) ∨
     (v' = v /\ w' = w /\ m = 0)) := by
 have hsmall : k + m <= 9223372036854775807 := by simp only [maxLen] at h63; omega
 have hlen : (xs ++ news).length = (k + m) * i.size := by rw [List.length_append, hxs, hl, Nat.add_mul]
 have grown : ∀ (old : Nat), ∃ cap' cs', (Value.slice (some ⟨w.heap.size, 0, none⟩) (k + m) (grownCap w (k + m) old e) = .slice (some ⟨w.heap.size, 0, none⟩) (k + m) cap') ∧
   (w.drew.alloc (.cells (xs.toArray ++ news.toArray ++ Builtin.zeroCells z.cells (grownCap w (k + m) old e - (k + m))) e)).heap = w.heap.push (.cells cs' e) /\ k + m <= cap' /\ cap' <= maxLen /\ cs'.size = cap' * i.size /\ cs'.toList.take ((k + m) * i.size) = xs ++ news := by
  intro old
  have hge := grownCap_ge w (k + m) old e
  have hcm : grownCap w (k + m) old e <= maxLen := grownCap_le_maxLen w (k + m) old e h63
  refine ⟨_, _, rfl, rfl, hge, hcm, ?_, ?_⟩
  ·simp only [Array.size_append, List.size_toArray, size_zeroCells, hzs, hxs, hl, ← Nat.add_mul]
   congr 1
   omega
  ·simp only [Array.toList_append, List.append_assoc]
   rw [← List.append_assoc, ← hlen]
   exact List.take_left
 rcases hu with ⟨rfl, rfl⟩ | ⟨ad, c, rfl, hnews⟩
 ·rcases hv with ⟨rfl, rfl⟩ | ⟨g, cap, cur, e0, rfl, hg, hkc, hcm, hcs, htake⟩
  ·exact ⟨_, w, q0qt w t ty e i ht hi none 0 0 (Nat.le_refl _), rfl, rfl, rfl, .inr (.inr ⟨rfl, rfl, rfl⟩)⟩
  ·exact ⟨_, w, q0qt w t ty e i ht hi _ k cap hkc, rfl, rfl, rfl, .inr (.inr ⟨rfl, rfl, rfl⟩)⟩
 rcases hv with ⟨rfl, rfl⟩ | ⟨g, cap, cur, e0, rfl, hg, hkc, hcm, hcs, htake⟩
 ·have hx : xs = [] := List.eq_nil_of_length_eq_zero (by simpa using hxs)
  subst hx
  by_cases hm : m = 0
  ·subst hm
   refine ⟨.slice none 0 0, w, ?_, rfl, rfl, rfl, .inr (.inr ⟨rfl, rfl, rfl⟩)⟩
   simp [Builtin.append_, run_underlying ht, Go.sizeOf, typeInfo, hi, Builtin.lenOf, Builtin.firstCells, loadCells, loadCellsFrom]
  ·have hr := run_append_nil (P := P) w t ty e i z ht hi hz ad m c news hl hnews (by omega) (by omega) (by have hb := hbytes; simp only [Nat.zero_add] at hb; omega)
   obtain ⟨cap', cs', h1', h2', h3', h4', h5', h6'⟩ := grown 0
   refine ⟨_, _, hr, rfl, rfl, rfl, .inl ⟨cap', cs', ?_, ?_, h3', h4', h5', h6'⟩⟩
   ·simpa using h1'
   ·simpa using h2'
 ·by_cases hroom : k + m <= cap
  ·have hfit : k * i.size + news.length <= cur.size := by rw [hl, hcs, ← Nat.add_mul]; exact Nat.mul_le_mul_right _ hroom
   have hr := q0qu (P := P) w t ty e e0 i ht hi g k cap cur hg ad m c news hl hnews h1 hroom hfit
   refine ⟨_, _, hr, rfl, rfl, rfl, .inr (.inl ⟨g, cap, cur, e0, _, rfl, hg, rfl, by simp, setRow_heap w g cur _ e0 _ hg, fun b hb => setRow_other w g b _ hb, hroom, ?_, ?_⟩)⟩
   ·simp only [List.size_toArray, List.length_append, List.length_take, List.length_drop, Array.length_toList]
    omega
   ·rw [htake, ← hlen]
    exact List.take_left
  ·have holds : ∀ j y, xs[j]? = some y -> w.cell? ((⟨g, 0, none⟩ : Addr).add j) = some y := by
    intro j y hy
    rw [addr_add, Nat.zero_add, cell_of_row w g j cur e0 (0, 0) hg]
    rw [← htake, List.getElem?_take] at hy
    split at hy
    ·simpa using hy
    ·cases hy
   have hr := run_append_grow (P := P) w t ty e i z ht hi hz ⟨g, 0, none⟩ k cap xs hxs holds ad m c news hl hnews (by omega) (by omega) (growslice_fits (by omega) hbytes)
   obtain ⟨cap', cs', h1', h2', h3', h4', h5', h6'⟩ := grown cap
   exact ⟨_, _, hr, rfl, rfl, rfl, .inl ⟨cap', cs', h1', h2', h3', h4', h5', h6'⟩⟩
end
end Go.Ab

/- The abstract layer, part 11: append on an owned slice. -/
namespace Go.Ab

def q01n (S : St) (x : A) (z : Nat) (K : List T -> St -> Prop) : Prop :=
 match x with
 | .t (.v (.slice none 0 0)) => K [] S
 | .own r => (match S.roots r with
   | .live (.arr s l) [] => s = z /\ K l { S with roots := upd S.roots r .dead }
   | _ => False)
 | _ => False

def srcW (S : St) (x : A) (z : Nat) (K : List T -> St -> Prop) : Prop :=
 match x with
 | .t (.v (.slice none 0 0)) => K [] S
 | .t (.sh s l) => (s = z ∨ (l = [] /\ 0 < s)) /\ l.all T.cell = true /\ K l S
 | .own q => (match S.roots q with
   | .live (.arr s l) [] => (s = z ∨ (l = [] /\ 0 < s)) /\ l.all T.cell = true /\ K l (if l.all T.flat then S else { S with roots := upd S.roots q .dead })
   | _ => False)
 | .sub q off m => (match S.roots q with
   | .live (.arr s l) [] => s = z /\ off + m * z <= l.length /\ ((l.drop off).take (m * z)).all T.cell = true /\ ((l.drop off).take (m * z)).all T.flat = true /\ K ((l.drop off).take (m * z)) S
   | _ => False)
 | _ => False

def q017 (d z eb : Nat) (K : St -> Prop) (olds : List T) (news : List T) (S : St) : Prop :=
 (olds.length + news.length) * eb <= z * 140737488355328 /\ newK d (.arr z) K (olds ++ news) S
def q014 (x : A) (d z eb : Nat) (K : St -> Prop) (olds : List T) (S : St) : Prop := srcW S x z (q017 d z eb K olds)

def q01a (P : Program) (t : TypeId) (b x : A) (d : Nat) (S : St) (K : St -> Prop) : Prop :=
 match tyEs P t, tyEb P t with
 | some z, some eb => 0 < z /\ 0 < eb /\ q01n S b z (q014 x d z eb K)
 | _, _ => False

section
variable {P : Program} {n : Nat} {S : St} {K : St -> Prop} {X : Nat -> Prop} {w0 : World} {O0 : Fr} {a : Act} {w : World} {hs : Nat -> Option Value} {fp : Nat -> List Nat}

theorem q01q (g : Good X w0 O0 n S a w hs fp) {x : A} {v : Value} {z : Nat} {K : List T -> St -> Prop} (hz : 0 < z) (hx : Is w (Ob X fp) hs x v) (h : q01n S x z K) :
  ∃ (olds : List T) (S1 : St) (fp1 : Nat -> List Nat) (ovs : List Value) (ofs : List (List Nat)) (k : Nat), Inter S fp S1 fp1 /\ K olds S1 /\ olds.length = k * z /\ ovs.length = olds.length /\ ofs.length = olds.length ∧
    (∀ i (h : i < olds.length), Ow w (Ob X fp) olds[i] (ovs.getD i undef) (ofs.getD i [])) /\ ofs.flatten.Nodup /\ (∀ b ∈ ofs.flatten, ∃ q, b ∈ fp q /\ fp1 q = []) ∧
    ((v = .slice none 0 0 /\ k = 0) ∨ ∃ g cap cur e0, v = .slice (some ⟨g, 0, none⟩) k cap /\ w.heap[g]? = some (.cells cur e0 (0, 0)) /\ k <= cap /\ cap <= maxLen /\ cur.size = cap * z /\ cur.toList.take (k * z) = ovs ∧
      (∃ q, g ∈ fp q /\ fp1 q = []) /\ g ∉ ofs.flatten) := by
 unfold q01n at h
 split at h
 ·have hv := hx.v_inv
  exact ⟨[], S, fp, [], [], 0, Inter.refl S fp, h, by simp, rfl, rfl, fun i h => absurd h (by simp), by simp, by simp, .inl ⟨hv, rfl⟩⟩
 ·rename_i r
  split at h
  ·rename_i s l hr
   obtain ⟨hs, hK⟩ := h
   have hI : Inter S fp { S with roots := upd S.roots r .dead } (upd fp r []) := ⟨rfl, fun q => by
    by_cases hq : q = r
    ·subst hq; exact .inr ⟨q0x2 _ _ _, q0x2 _ _ _, _, _, hr⟩
    ·exact .inl ⟨q0x1 _ _ _ _ hq, q0x1 _ _ _ _ hq⟩⟩
   have hown := hx.own_inv
   rcases g.arr hr with ⟨hv, rfl, hfp, _⟩ | ⟨b, len, cap, cs, e, fps, hv, hb, hl, hc, hm, hsz, hf, hro, hfp, hle, _⟩
   ·rw [hv, Option.some.injEq] at hown
    exact ⟨[], _, _, [], [], 0, hI, hK, by simp, rfl, rfl, fun i h => absurd h (by simp), by simp, by simp, .inl ⟨hown.symm, rfl⟩⟩
   ·rw [hv, Option.some.injEq] at hown
    have hnd := g.nodup r; rw [hfp] at hnd
    subst hs
    refine ⟨l, _, _, cs.toList.take (len * s), fps, len, hI, hK, hl, by simp; omega, hf, fun i h => ?_, (List.nodup_cons.1 hnd).2, fun b' hb' => ⟨r, by rw [hfp]; exact List.mem_cons_of_mem _ hb', q0x2 _ _ _⟩,
     .inr ⟨b, cap, cs, e, hown.symm, hb, hc, hm, hsz, rfl, ⟨r, by rw [hfp]; simp, q0x2 _ _ _⟩, (List.nodup_cons.1 hnd).1⟩⟩
    have := hro i h
    rw [List.getD_eq_getElem?_getD, List.getElem?_take_of_lt (by omega)]
    simpa [Array.getD_eq_getD_getElem?] using this
  ·exact h.elim
 ·exact h.elim

theorem q0tf (g : Good X w0 O0 n S a w hs fp) {S1 : St} {fp1 : Nat -> List Nat} (I : Inter S fp S1 fp1) {x : A} {u : Value} {z : Nat} {K : List T -> St -> Prop} (hz : 0 < z) (hx : Is w (Ob X fp) hs x u) (h : srcW S1 x z K) :
  ∃ (news : List T) (S2 : St) (fp2 : Nat -> List Nat) (nvs : List Value) (gs : List (List Nat)) (m : Nat), Inter S fp S2 fp2 /\ K news S2 /\ news.length = m * z /\ nvs.length = news.length /\ gs.length = news.length ∧
    (∀ i (h : i < news.length), Ow w (Ob X fp) news[i] (nvs.getD i undef) (gs.getD i [])) /\ gs.flatten.Nodup /\ (∀ b ∈ gs.flatten, ∃ q, b ∈ fp1 q /\ fp2 q = []) /\ (∀ r, fp1 r = [] -> fp2 r = []) /\ (∀ c ∈ news, c.cell = true) ∧
    ((u = .slice none 0 0 /\ m = 0) ∨ ∃ ad c, u = .slice (some ad) m c /\ ∀ j y, nvs[j]? = some y -> w.cell? (ad.add j) = some y) := by
 -- cells of a row that are copied
 have copy : ∀ (news : List T) (b off m c : Nat) (cs : Array Value) (e : TypeId) (fz : Nat × Nat), u = .slice (some ⟨b, off, none⟩) m c -> w.heap[b]? = some (.cells cs e fz) -> off + news.length <= cs.size -> news.length = m * z →
   (∀ i (h : i < news.length), Rd w (Ob X fp) news[i] (cs.getD (off + i) undef)) -> news.all T.cell = true -> K news S1 -> ∃ (news : List T) (S2 : St) (fp2 : Nat -> List Nat) (nvs : List Value) (gs : List (List Nat)) (m : Nat), Inter S fp S2 fp2 /\ K news S2 /\ news.length = m * z /\ nvs.length = news.length /\ gs.length = news.length ∧
   (∀ i (h : i < news.length), Ow w (Ob X fp) news[i] (nvs.getD i undef) (gs.getD i [])) /\ gs.flatten.Nodup /\ (∀ b ∈ gs.flatten, ∃ q, b ∈ fp1 q /\ fp2 q = []) /\ (∀ r, fp1 r = [] -> fp2 r = []) /\ (∀ c ∈ news, c.cell = true) ∧
   ((u = .slice none 0 0 /\ m = 0) ∨ ∃ ad c, u = .slice (some ad) m c /\ ∀ j y, nvs[j]? = some y -> w.cell? (ad.add j) = some y) := by
  intro news b off m c cs e fz hu hb hsz hl hr hc hK
  refine ⟨news, S1, fp1, (List.range news.length).map fun i => cs.getD (off + i) undef, List.replicate news.length [], m, I, hK, hl, by simp, by simp, fun i h => ?_, by simp, by simp, fun _ h => h, fun c hc' => List.all_eq_true.1 hc c hc', .inr ⟨_, c, hu, fun j y hy => ?_⟩⟩
  ·rw [List.getD_eq_getElem?_getD, List.getElem?_map, List.getElem?_range h, List.getD_eq_getElem?_getD, List.getElem?_replicate, if_pos h]
   exact .rd (hr i h)
  ·rw [List.getElem?_map] at hy
   by_cases hj : j < news.length
   ·rw [List.getElem?_range hj] at hy
    simp only [Option.map_some, Option.some.injEq] at hy
    rw [addr_add, ← hy]; exact q060 hb (by omega)
   ·rw [List.getElem?_eq_none (by simpa using hj)] at hy; simp at hy
 have none : ∀ (news : List T), news = [] -> u = .slice none 0 0 -> K news S1 -> ∃ (news : List T) (S2 : St) (fp2 : Nat -> List Nat) (nvs : List Value) (gs : List (List Nat)) (m : Nat), Inter S fp S2 fp2 /\ K news S2 /\ news.length = m * z /\ nvs.length = news.length /\ gs.length = news.length ∧
   (∀ i (h : i < news.length), Ow w (Ob X fp) news[i] (nvs.getD i undef) (gs.getD i [])) /\ gs.flatten.Nodup /\ (∀ b ∈ gs.flatten, ∃ q, b ∈ fp1 q /\ fp2 q = []) /\ (∀ r, fp1 r = [] -> fp2 r = []) /\ (∀ c ∈ news, c.cell = true) ∧
   ((u = .slice none 0 0 /\ m = 0) ∨ ∃ ad c, u = .slice (some ad) m c /\ ∀ j y, nvs[j]? = some y -> w.cell? (ad.add j) = some y) := by
  rintro _ rfl hu hK
  exact ⟨[], S1, fp1, [], [], 0, I, hK, by simp, rfl, rfl, fun i h => absurd h (by simp), by simp, by simp, fun _ h => h, by simp, .inl ⟨hu, rfl⟩⟩
 have same : ∀ q t lk, S1.roots q = .live t lk -> S.roots q = .live t lk /\ fp1 q = fp q := fun q t lk hq => by
  rcases I.root q with ⟨h1, h2⟩ | ⟨h1, _⟩ <;> rw [hq] at h1
  ·exact ⟨h1.symm, h2⟩
  ·cases h1
 have zlen : ∀ {l : List T} {len s : Nat}, l.length = len * s -> (s = z ∨ (l = [] /\ 0 < s)) -> l.length = len * z := by
  intro l len s hl h
  rcases h with rfl | ⟨rfl, h0⟩
  ·exact hl
  ·have : 0 = len * s := by simpa using hl
   rcases Nat.mul_eq_zero.1 this.symm with h | h
   ·subst h; simp
   ·omega
 unfold srcW at h
 split at h
 ·exact none _ rfl hx.v_inv h
 ·rename_i s l
  obtain ⟨hs', hc, hK⟩ := h
  rcases hx.sh_inv with ⟨hv, rfl⟩ | ⟨ad, cap, hv, rfl⟩ | ⟨b, off, len, cap, cs, e, fz, hv, hO, hb, hsz, hl, hcap, hr⟩
  ·exact none _ rfl hv hK
  ·exact ⟨[], S1, fp1, [], [], 0, I, hK, by simp, rfl, rfl, fun i h => absurd h (by simp), by simp, by simp, fun _ h => h, by simp, .inr ⟨ad, cap, hv, fun j y hy => by simp at hy⟩⟩
  ·exact copy l b off len cap cs e fz hv hb hsz (zlen hl hs') hr hc hK
 ·rename_i q
  split at h
  ·rename_i s l hq
   obtain ⟨hs', hc, hK⟩ := h
   obtain ⟨hqS, hqf⟩ := same q _ _ hq
   have hown := hx.own_inv
   rcases g.arr hqS with ⟨hv, rfl, hfp, _⟩ | ⟨b, len, cap, cs, e, fps, hv, hb, hl, hcap, hm, hsz, hf, hro, hfp, hle, _⟩
   ·rw [hv, Option.some.injEq] at hown
    exact none _ rfl hown.symm (by simpa using hK)
   ·rw [hv, Option.some.injEq] at hown
    by_cases hfl : l.all T.flat = true
    ·rw [if_pos hfl] at hK
     refine copy l b 0 len cap cs e (0, 0) hown.symm hb (by omega) (zlen hl hs') (fun i h => ?_) hc hK
     have := (hro i h).flat_rd (List.all_eq_true.1 hfl _ (List.getElem_mem _))
     rw [Nat.zero_add]; exact this.1
    ·rw [if_neg hfl] at hK
     have hnd := g.nodup q; rw [hfp] at hnd
     refine ⟨l, { S1 with roots := upd S1.roots q .dead }, upd fp1 q [], cs.toList.take l.length, fps, len, ⟨I.env, fun r => ?_⟩, hK, zlen hl hs', by simp; omega, hf, fun i h => ?_, (List.nodup_cons.1 hnd).2, fun b' hb' => ⟨q, by rw [hqf, hfp]; exact List.mem_cons_of_mem _ hb', q0x2 _ _ _⟩,
      fun r hr => ?_, fun c hc' => List.all_eq_true.1 hc c hc', .inr ⟨_, cap, hown.symm, fun j y hy => ?_⟩⟩
     ·by_cases hr : r = q
      ·subst hr; exact .inr ⟨q0x2 _ _ _, q0x2 _ _ _, _, _, hqS⟩
      ·simp only [q0x1 _ _ _ _ hr]; exact I.root r
     ·have := hro i h
      rw [List.getD_eq_getElem?_getD, List.getElem?_take_of_lt h]
      simpa [Array.getD_eq_getD_getElem?] using this
     ·by_cases h : r = q
      ·subst h; exact q0x2 _ _ _
      ·rw [q0x1 _ _ _ _ h]; exact hr
     ·rw [List.getElem?_take] at hy
      split at hy
      ·rw [addr_add, Nat.zero_add, cell_of_row w b j cs e (0, 0) hb]; simpa using hy
      ·cases hy
  ·exact h.elim
 ·rename_i q off m
  split at h
  ·rename_i s l hq
   obtain ⟨rfl, hle', hc, hfl, hK⟩ := h
   obtain ⟨hqS, hqf⟩ := same q _ _ hq
   obtain ⟨u', hu⟩ : ∃ u', u = u' := ⟨_, rfl⟩
   rw [hu] at hx
   rcases g.arr hqS with ⟨hv, rfl, hfp, _⟩ | ⟨b, len, cap, cs, e, fps, hv, hb, hl, hcap, hm, hsz, hf, hro, hfp, hle, _⟩
   ·cases hx with
    | sub hr _ => rw [hv] at hr; cases hr
    | subZ hr => rw [hv] at hr; cases hr
    | subNil _ => exact none _ (by simp) hu hK
   ·cases hx with
    | sub hr _ =>
      rw [hv] at hr; cases hr
      refine copy _ b off m _ cs e (0, 0) hu hb (by simp; omega) (by simp; omega) (fun i h => ?_) hc hK
      have h' : off + i < l.length := by simp at h; omega
      have e1 : ((l.drop off).take (m * s))[i] = l[off + i] := by simp
      have := (hro (off + i) h').flat_rd (by rw [← e1]; exact List.all_eq_true.1 hfl _ (List.getElem_mem _))
      rw [e1]; exact this.1
    | subZ hr =>
      refine ⟨[], S1, fp1, [], [], 0, I, by simpa using hK, by simp, rfl, rfl, fun i h => absurd h (by simp), by simp, by simp, fun _ h => h, by simp, .inr ⟨_, _, hu, fun j y hy => by simp at hy⟩⟩
    | subNil hr => rw [hv] at hr; cases hr
  ·exact h.elim
 ·exact h.elim

theorem q0mg {o : Oper} {t u : TypeId} {d : Nat} {b x : Operand} (ho : o.op = .call { callee := .builtin .append, args := #[b, x], argTypes := #[t, t] }) (hdst : o.dst = some d) (hd : d < n)
  {e : TypeId} (he : q0w9 P t = some e) (hze : ∃ zs, q0ws P e = some zs /\ q0wn P e = some zs.length) (k : q01a P t (S.ev b) (S.ev x) d S K) : OpW P n o S K := by
 unfold q01a at k
 split at k
 ·rename_i z eb hz heb
  obtain ⟨hz0, heb0, k⟩ := k
  intro X w0 O0 a w hs fp g Q
  obtain ⟨e', ie, hu, hi, hiz⟩ := q0wb hz
  have hee : e' = e := by have := q0wa he; rw [hu] at this; cases this; rfl
  subst hee
  obtain ⟨zs, hzs, hzl⟩ := hze
  obtain ⟨i1, zv, hi1, hizv, hzsv⟩ := q0wt hzs
  have : i1 = ie := by rw [hi] at hi1; cases hi1; rfl
  subst this
  have hzvs : zv.cells.size = i1.size := by
   obtain ⟨i2, hi2, hs2⟩ := q0wp hzl
   have : i2 = i1 := by rw [hi] at hi2; cases hi2; rfl
   subst this
   rw [hs2, hzsv]; simp
  have hbytes : i1.bytes = eb := by
   unfold tyEb at heb
   rw [he] at heb
   obtain ⟨i2, hi2, hs2⟩ := q0w8 (by simpa using heb)
   have : i2 = i1 := by rw [hi] at hi2; cases hi2; rfl
   subst this; exact hs2
  obtain ⟨olds, S1, fp1, ovs, ofs, kk, I1, hK1, hol, hovl, hofl, hoo, hon, hos, hv⟩ := q01q g hz0 (g.ev b) k
  obtain ⟨news, S2, fp2, nvs, gs, m, I2, hK2, hnl, hnvl, hgl, hno, hgn, hgs, hmono, hcell, huu⟩ := q0tf g I1 hz0 (g.ev x) hK1
  obtain ⟨hle, hfree, hK⟩ := hK2
  have hle' : (kk + m) * eb <= 140737488355328 := by
   rw [hol, hnl, ← Nat.add_mul, Nat.mul_right_comm] at hle
   rw [Nat.mul_comm z] at hle
   exact Nat.le_of_mul_le_mul_right hle hz0
  have h63 : kk + m <= maxLen := by
   have := Nat.le_mul_of_pos_right (kk + m) heb0
   unfold maxLen; omega
  have hone : ∀ y ∈ nvs, y.oneCell' = true := by
   intro y hy
   obtain ⟨j, hj, rfl⟩ := List.mem_iff_getElem.1 hy
   have h1 := (hno j (by omega)).oneCell (hcell _ (List.getElem_mem _))
   rwa [List.getD_eq_getElem?_getD, List.getElem?_eq_getElem hj] at h1
  obtain ⟨v', w', hr, hw1, hw2, hw3, hcase⟩ := q0ql (P := P) w t o.type e' i1 zv hu hi hizv hzvs (a.eval b) kk ovs (by rw [hovl, hol, hiz]) (by
    rcases hv with h | ⟨g', cap, cur, e0, h1, h2, h3, h4, h5, h6, _⟩
    ·exact .inl h
    ·exact .inr ⟨g', cap, cur, e0, h1, h2, h3, h4, by rw [hiz]; exact h5, by rw [hiz]; exact h6⟩) (a.eval x) m nvs (by rw [hnvl, hnl, hiz]) hone huu h63 (by rw [hbytes]; exact hle')
  have hrun : (execOp a.eval o).run P w = .ok (.value v') w' := by
   simp [execOp, ho, resolve, invoke, builtin, hr]
  -- the joined cells
  have hall : ∀ i (h : i < (olds ++ news).length), Ow w (Ob X fp) (olds ++ news)[i] ((ovs ++ nvs).getD i undef) ((ofs ++ gs).getD i []) := by
   intro i h
   by_cases hi' : i < olds.length
   ·rw [List.getElem_append_left hi', List.getD_eq_getElem?_getD, List.getElem?_append_left (by omega), List.getD_eq_getElem?_getD, List.getElem?_append_left (by omega)]
    have := hoo i hi'
    rwa [List.getD_eq_getElem?_getD, List.getD_eq_getElem?_getD] at this
   ·have hlt : i - olds.length < news.length := by simp at h; omega
    rw [List.getElem_append_right (by omega), List.getD_eq_getElem?_getD, List.getElem?_append_right (by omega), List.getD_eq_getElem?_getD, List.getElem?_append_right (by omega), hovl, hofl]
    have := hno (i - olds.length) hlt
    rwa [List.getD_eq_getElem?_getD, List.getD_eq_getElem?_getD] at this
  have hold2 : ∀ b ∈ ofs.flatten, ∃ q, b ∈ fp q /\ fp1 q = [] /\ fp2 q = [] := fun b hb => by obtain ⟨q, h1, h2⟩ := hos b hb; exact ⟨q, h1, h2, hmono q h2⟩
  have fsub1 : ∀ q b, b ∈ fp1 q -> b ∈ fp q := fun q b hq => by
   rcases I1.root q with ⟨_, h⟩ | ⟨_, h, _⟩ <;> rw [h] at hq
   ·exact hq
   ·simp at hq
  have hfn : (ofs ++ gs).flatten.Nodup := by
   rw [List.flatten_append, List.nodup_append]
   refine ⟨hon, hgn, fun b hb b' hb' e => ?_⟩
   subst e
   obtain ⟨q, h1, h2, _⟩ := hold2 b hb
   obtain ⟨q', h3, _⟩ := hgs b hb'
   have := g.disj q q' b h1 (fsub1 _ _ h3)
   subst this
   rw [h2] at h3; simp at h3
  have hfsall : ∀ b ∈ (ofs ++ gs).flatten, ∃ q, b ∈ fp q /\ fp2 q = [] := by
   intro b hb
   rw [List.flatten_append, List.mem_append] at hb
   rcases hb with hb | hb
   ·obtain ⟨q, h1, _, h3⟩ := hold2 b hb; exact ⟨q, h1, h3⟩
   ·obtain ⟨q, h1, h2⟩ := hgs b hb; exact ⟨q, fsub1 _ _ h1, h2⟩
  have hlen : (olds ++ news).length = (kk + m) * z := by rw [List.length_append, hol, hnl, Nat.add_mul]
  have hvl : (ovs ++ nvs).length = (olds ++ news).length := by simp [hovl, hnvl]
  have hfl' : (ofs ++ gs).length = (olds ++ news).length := by simp [hofl, hgl]
  have hcells : ∀ (cs' : Array Value), cs'.toList.take ((kk + m) * i1.size) = ovs ++ nvs -> ∀ i, i < (olds ++ news).length -> cs'.getD i undef = (ovs ++ nvs).getD i undef := by
   intro cs' h i hi'
   rw [← h, List.getD_eq_getElem?_getD, List.getElem?_take_of_lt (by rw [hiz]; omega)]
   simp [Array.getD_eq_getD_getElem?]
  have hnone : hs d = none := by
   have := g.root d
   rcases I2.root d with ⟨h1, _⟩ | ⟨h1, _⟩ <;> rw [h1] at hfree
   ·rw [hfree] at this; exact this.1
   ·cases hfree
  unfold Oper.wp
  rw [hrun, Oper.upon_value, hdst]
  rcases hcase with ⟨cap', cs', rfl, hwh, hkc, hcm, hcs, htk⟩ | ⟨g0, cap, cur, e0, cs', hbv, hg0, rfl, hwsz, hwg, hwo, hkc, hcs, htk⟩ | ⟨rfl, hww, hm0⟩
  ·have g2 := g.newRow I2 hfl' hall hfn hfsall hfree hd cs' e' (hcells cs' htk) (.arr z (olds ++ news)) (.slice (some ⟨w.heap.size, 0, none⟩) (kk + m) cap') rfl w' hwh hw1 hw2 hw3
    (fun w'' O' hb hr' => .arr z _ _ _ cap' cs' e' _ hb hlen hkc hcm (by rw [hcs, hiz]) hfl' hr')
   exact ⟨_, _, _, g2, hK⟩
  ·-- the old row was written on
   have hgb : (∃ q, g0 ∈ fp q /\ fp1 q = []) /\ g0 ∉ ofs.flatten /\ cap <= maxLen := by
    rcases hv with ⟨h, _⟩ | ⟨g', cap2, cur2, e2, h1, _, _, h4, _, _, h7, h8⟩
    ·rw [h] at hbv; cases hbv
    ·rw [h1] at hbv; cases hbv; exact ⟨h7, h8, h4⟩
   obtain ⟨⟨q0, hq0, hq1⟩, hgof, hcm⟩ := hgb
   have hgng : g0 ∉ (ofs ++ gs).flatten := by
    rw [List.flatten_append, List.mem_append]
    rintro (h | h)
    ·exact hgof h
    ·obtain ⟨q', h3, _⟩ := hgs g0 h
     have := g.disj q0 q' g0 hq0 (fsub1 _ _ h3)
     subst this
     rw [hq1] at h3; simp at h3
   have g2 := g.lay I2 d (.arr z (olds ++ news)) [] (.slice (some ⟨g0, 0, none⟩) (kk + m) cap) (g0 :: (ofs ++ gs).flatten) w' (.inl ⟨hnone, by have := g.small; omega⟩) rfl hw1 hw2 hw3 (by omega)
    (fun b' hb' hq => hwo b' fun h => by subst h; exact (hq q0 hq0).2 (hmono q0 hq1))
    (List.nodup_cons.2 ⟨hgng, hfn⟩)
    (fun b' hb' => by
     left
     rcases List.mem_cons.1 hb' with rfl | hb'
     ·exact ⟨q0, hq0, .inr (hmono q0 hq1)⟩
     ·obtain ⟨q, h1, h2⟩ := hfsall b' hb'; exact ⟨q, h1, .inr h2⟩)
    (fun O' hO => .arr z _ _ _ cap cs' e0 _ hwg hlen hkc hcm (by rw [hcs, hiz]) hfl' fun i hi' => by
     rw [hcells cs' htk i hi']
     have hne : ∀ b', ¬ Ob X fp b' -> b' ≠ g0 := fun b' h1 h2 => h1 (.inr ⟨q0, h2 ▸ hq0⟩)
     exact (hall i hi').mono (fun b' cs e fz h1 h2 => by rw [hwo b' (hne b' h1)]; exact h2) hO
      (fun b' cs e fz h1 h2 => by rw [hwo b' (fun h => hgng (h ▸ q0k4 h1))]; exact h2))
    (fun p hp => by simp at hp)
   exact ⟨_, _, _, g2.put hd (.own (q0x2 _ _ _)), hK⟩
  ·-- nothing was appended
   rw [hww]
   subst hm0
   have hnews : news = [] := List.eq_nil_of_length_eq_zero (by rw [hnl]; simp)
   have hgs0 : gs = [] := List.eq_nil_of_length_eq_zero (by rw [hgl, hnews]; rfl)
   rw [hnews, List.append_nil] at hK
   rcases hv with ⟨h, hk0⟩ | ⟨g', cap2, cur2, e2, h1, h2, h3, h4, h5, h6, ⟨q0, h7, h7'⟩, h8⟩
   ·have holds : olds = [] := List.eq_nil_of_length_eq_zero (by rw [hol, hk0]; simp)
    rw [holds] at hK
    have g2 := g.lay I2 d (.arr z []) [] (a.eval b) [] w (.inl ⟨hnone, by have := g.small; omega⟩) rfl rfl rfl rfl (Nat.le_refl _) (fun _ _ _ => rfl) (by simp) (by simp) (fun O' hO => by rw [h]; exact .arrNil z) (fun p hp => by simp at hp)
    exact ⟨_, _, _, g2.put hd (.own (q0x2 _ _ _)), hK⟩
   ·have g2 := g.lay I2 d (.arr z olds) [] (a.eval b) (g' :: ofs.flatten) w (.inl ⟨hnone, by have := g.small; omega⟩) rfl rfl rfl rfl (Nat.le_refl _) (fun _ _ _ => rfl) (List.nodup_cons.2 ⟨h8, hon⟩)
     (fun b' hb' => by
      left
      rcases List.mem_cons.1 hb' with rfl | hb'
      ·exact ⟨q0, h7, .inr (hmono q0 h7')⟩
      ·obtain ⟨q, h1, _, h2⟩ := hold2 b' hb'; exact ⟨q, h1, .inr h2⟩)
     (fun O' hO => by
      rw [h1]
      refine .arr z _ _ _ cap2 cur2 e2 _ h2 hol h3 h4 h5 hofl fun i hi' => ?_
      have := hoo i hi'
      rw [← h6, List.getD_eq_getElem?_getD, List.getElem?_take_of_lt (by omega)] at this
      exact (by simpa [Array.getD_eq_getD_getElem?] using this : Ow w (Ob X fp) olds[i] (cur2.getD i undef) (ofs.getD i [])).mono (fun _ _ _ _ _ h => h) hO (fun _ _ _ _ _ h => h)) (fun p hp => by simp at hp)
    exact ⟨_, _, _, g2.put hd (.own (q0x2 _ _ _)), hK⟩
 ·exact k.elim
end
end Go.Ab

/- The abstract layer, part 12: conversions, nil checks, function values, parts of slices, min and max. -/
namespace Go.Ab

def q07r (P : Program) (src dst : TypeId) (x : A) (K : A -> Prop) : Prop :=
 match q0wg P src, q0wg P dst, x with
 | some _, some k, .t (.v (.int _ m)) => K (.v (.int k (k.wrap m)))
 | _, _, _ => False

def q0lp (x : A) (S : St) (K : A -> Prop) : Prop :=
 match x with
 | .ptr r off => K (.ptr r off)
 | .own r => (match S.roots r with | .live (.box _) _ => K (.own r) | _ => False)
 | .t (.pin l off) => K (.t (.pin l off))
 | .fn f cap => K (.fn f cap)
 | _ => False

def mmW (mx : Bool) (x y : A) (K : A -> Prop) : Prop :=
 match x, y with
 | .t (.v (.int k a)), .t (.v (.int _ b)) => K (.v (.int k (if mx then max a b else min a b)))
 | _, _ => False

section
variable {P : Program} {n : Nat} {S : St} {K : St -> Prop} {X : Nat -> Prop} {w0 : World} {O0 : Fr} {a : Act} {w : World} {hs : Nat -> Option Value} {fp : Nat -> List Nat}

theorem q0mr {o : Oper} {d : Nat} {src dst : TypeId} {x : Operand} (ho : o.op = .convert src dst x) (hdst : o.dst = some d) (hd : d < n) (k : q07r P src dst (S.ev x) (putK S d K)) : OpW P n o S K := by
 unfold q07r at k
 split at k
 ·rename_i k1 k2 kk m h1 h2 hx
  refine OpW.val hdst hd (fun X w0 O0 a w hs fp g => ?_) k
  have h := g.ev x; rw [hx] at h; have h := h.v_inv
  exact ⟨_, by simp [execOp, ho, h, convert, run_underlying (q0wh h1), run_underlying (q0wh h2), Conv.intToInt], .t (.v _)⟩
 ·exact k.elim

theorem q0n4 {o : Oper} {d : Nat} {x : Operand} (ho : o.op = .nilCheck x) (hdst : o.dst = some d) (hd : d < n) (k : q0lp (S.ev x) S (putK S d K)) : OpW P n o S K := by
 have ptr : ∀ (y : A), (∀ X w0 O0 a w hs fp, Good X w0 O0 n S a w hs fp -> ∃ ad, a.eval x = .pointer (some ad)) -> S.ev x = y -> putK S d K y -> OpW P n o S K := by
  intro y hy hxy hK
  refine OpW.val hdst hd (fun X w0 O0 a w hs fp g => ?_) hK
  obtain ⟨ad, had⟩ := hy X w0 O0 a w hs fp g
  exact ⟨.pointer (some ad), by simp [execOp, ho, had], by rw [← hxy, ← had]; exact g.ev x⟩
 unfold q0lp at k
 split at k
 ·rename_i r off hx
  refine ptr _ (fun X w0 O0 a w hs fp g => ?_) hx k
  have h := g.ev x; rw [hx] at h
  generalize a.eval x = v at h
  cases h with
  | ptrS _ => exact ⟨_, rfl⟩
  | ptrP _ => exact ⟨_, rfl⟩
 ·rename_i r hx
  split at k
  ·rename_i l lk hr
   refine ptr _ (fun X w0 O0 a w hs fp g => ?_) hx k
   have h1 := g.ev x; rw [hx] at h1; have h1 := h1.own_inv
   obtain ⟨b, cs, e, fps, hb, _⟩ := g.box hr
   rw [hb, Option.some.injEq] at h1
   exact ⟨_, h1.symm⟩
  ·exact k.elim
 ·rename_i l off hx
  refine ptr _ (fun X w0 O0 a w hs fp g => ?_) hx k
  have h := g.ev x; rw [hx] at h
  generalize a.eval x = v at h
  cases h with
  | t h => cases h; exact ⟨_, rfl⟩
 ·rename_i f cap hx
  refine OpW.val hdst hd (fun X w0 O0 a w hs fp g => ?_) k
  have h := g.ev x; rw [hx] at h
  obtain ⟨v, hv⟩ : ∃ v, a.eval x = v := ⟨_, rfl⟩
  rw [hv] at h
  have h' := h
  cases h' with
  | fn hl hr => exact ⟨_, by simp [execOp, ho, hv], h⟩
 ·exact k.elim

theorem q0n1 {o : Oper} {d f : Nat} {cap : Array Operand} (ho : o.op = .makeFunc (.func f) #[] cap) (hdst : o.dst = some d) (hd : d < n) (k : putK S d K (.fn f (cap.toList.map S.ev))) : OpW P n o S K := by
 refine OpW.val hdst hd (fun X w0 O0 a w hs fp g => ?_) k
 refine ⟨.func (.func f) #[] (cap.map a.eval), by simp [execOp, ho, Instr.makeFunc], ?_⟩
 have := Is.fn (w := w) (O := Ob X fp) (hs := hs) (f := f) (cap := cap.toList.map S.ev) (vs := cap.toList.map a.eval) (by simp) (fun i h => by
  have h' : i < cap.toList.length := by simpa using h
  simp only [List.getElem_map, List.getD_eq_getElem?_getD, List.getElem?_map, List.getElem?_eq_getElem h', Option.map_some, Option.getD_some]
  exact g.ev _)
 have e : (cap.toList.map a.eval).toArray = cap.map a.eval := by apply Array.ext'; simp
 rw [e] at this
 exact this

theorem q0n2 {o : Oper} {d : Nat} {x y : Operand} {mx : Bool} {ts : Array TypeId} (ho : o.op = .call { callee := .builtin (if mx then .max else .min), args := #[x, y], argTypes := ts }) (hdst : o.dst = some d) (hd : d < n)
  (k : mmW mx (S.ev x) (S.ev y) (putK S d K)) : OpW P n o S K := by
 unfold mmW at k
 split at k
 ·rename_i kk a1 k2 b1 hx hy
  refine OpW.val hdst hd (fun X w0 O0 a w hs fp g => ?_) k
  have h1 := g.ev x; rw [hx] at h1; have h1 := h1.v_inv
  have h2 := g.ev y; rw [hy] at h2; have h2 := h2.v_inv
  cases mx
  ·refine ⟨_, by simp [execOp, ho, resolve, invoke, builtin, h1, h2, Builtin.min_, Builtin.min2]; rfl, ?_⟩
   have : (if b1 < a1 then b1 else a1) = min a1 b1 := by rw [Int.min_def]; split <;> split <;> omega
   rw [this]; exact .t (.v _)
  ·refine ⟨_, by simp [execOp, ho, resolve, invoke, builtin, h1, h2, Builtin.max_, Builtin.max2]; rfl, ?_⟩
   have : (if a1 < b1 then b1 else a1) = max a1 b1 := by rw [Int.max_def]; split <;> split <;> omega
   rw [this]; exact .t (.v _)
 ·exact k.elim
end
end Go.Ab

/- The abstract layer, part 13: code: regions, sequences, branches, blocks, loops. -/
namespace Go.Ab

def rF (ro : Option Nat) : Fence := match ro with | none => Fence.wide | some l => Fence.wide.inRound l
def q00c (ro : Option Nat) (w0 : World) (O0 : Fr) : Prop := ∀ l, ro = some l -> l < w0.heap.size /\ ¬ O0 l /\ ∃ r, w0.heap[l]? = some (.loop r)
theorem q00c.no (w0 : World) (O0 : Fr) : q00c none w0 O0 := fun l h => by cases h
theorem q0ou (ro : Option Nat) (f : FuncId) : (rF ro).fn f := by cases ro <;> trivial
theorem q0os {ro : Option Nat} {n : Nat} {P : Program} {f : FuncId} {args : Array Value} {w : World} {R : Ending -> World -> Prop} (h : Calls P f args w R) : CallsIn (rF ro) n P f args w R := by
 cases ro with
 | none => exact callsIn_wide.2 h
 | some l => exact CallsIn.inRound l (callsIn_wide.2 h)
theorem q0ov {ro : Option Nat} {n : Nat} {P : Program} {row : String} {args : Array Value} {w : World} {R : Value -> World -> Prop} (h : Rows P row args w R) : RowsIn (rF ro) n P row args w R := fun c cs _ => by
 obtain ⟨v, w', r, s⟩ := h c cs
 refine ⟨v, w', r, ?_⟩
 cases ro with
 | none => exact stepsIn_wide.2 s
 | some l => exact stepsIn_wide.2 s
theorem q0ot {ro : Option Nat} {p : Prop} : (rF ro).depth.isSome = true -> p := fun h => by cases ro <;> cases h
theorem q0nd {P : Program} {o : Oper} (hnd : ∀ c, o.op ≠ .defer c) {ro : Option Nat} {a : Act} {w : World} {next : Act -> World -> Prop} {Q : Exit -> Act -> World -> Prop} (h : o.wp P a w next Q) : o.wpIn (rF ro) 0 P a w next Q := by
 refine ⟨fun f _ => q0ou ro f, ?_⟩
 rw [Oper.semAt_eq _ _ _ hnd]
 unfold Oper.wp at h
 generalize (execOp a.eval o).run P w = r at h ⊢
 cases r with
 | ok x w' =>
   cases x <;> simp only [Oper.upon, Oper.uponIn] at h ⊢ <;> first | exact h | exact ⟨q0ot, q0os h⟩ | exact ⟨q0ot, q0ov h⟩
 | halt x w' => cases x <;> simp only [Oper.upon, Oper.uponIn] at h ⊢ <;> exact h
theorem q0xo {P : Program} {ops : Array Oper} {ro : Option Nat} {Q : Exit -> Act -> World -> Prop} (hnd : ∀ o ∈ ops.toList, ∀ c, o.op ≠ .defer c) (hQ : ¬ LetsOut Q) : ∀ (l : List Nat) (a : Act) (w : World), wpOps P ops Q l a w -> wpOpsIn (rF ro) 0 P ops Q l a w
 | [], a, w, h => h
 | i :: l, a, w, h => by
   simp only [wpOps, wpOpsIn] at h ⊢
   cases ho : ops[i]? with
   | none => rw [ho] at h; exact q0xo hnd hQ l a w h
   | some o =>
     rw [ho] at h
     simp only at h ⊢
     have hm : o ∈ ops.toList := by
      rw [← Array.getElem?_toList] at ho; exact List.mem_of_getElem? ho
     split
     ·rename_i hw
      rw [if_pos hw] at h
      rcases h with h | ⟨_, h⟩
      ·exact Oper.wpIn_mono (fun a w => q0xo hnd hQ l a w) (q0nd (hnd o hm) h)
      ·exact (hQ h).elim
     ·rename_i hw
      rw [if_neg hw] at h
      exact ⟨fun f _ => q0ou ro f, q0xo hnd hQ l _ w h⟩

def Same (l : List Nat) (a a' : Act) : Prop := ∀ s, s ∉ l -> a'.tmps.getD s undef = a.tmps.getD s undef
theorem Same.refl (l : List Nat) (a : Act) : Same l a a := fun _ _ => rfl
theorem Same.trans {l : List Nat} {a a' a'' : Act} (h : Same l a a') (h' : Same l a' a'') : Same l a a'' := fun s hs => (h' s hs).trans (h s hs)
theorem Same.mono {l l' : List Nat} {a a' : Act} (h : Same l a a') (hl : ∀ s ∈ l, s ∈ l') : Same l' a a' := fun s hs => h s fun h1 => hs (hl s h1)
theorem Same.put (a : Act) (d : Option Nat) (v : Value) : Same d.toList a (a.put d v) := fun s hs => by
 cases d with
 | none => rfl
 | some d =>
   have hne : d ≠ s := fun e => hs (by simp [e])
   show (a.tmps.setIfInBounds d v).getD s undef = _
   rw [Array.getD_eq_getD_getElem?, Array.getD_eq_getD_getElem?, Array.getElem?_setIfInBounds_ne hne]
def dstO (ops : Array Oper) : List Nat := ops.toList.filterMap (·.dst)
def dstC : Code -> List Nat
 | .region _ ops _ => dstO ops
 | .seq a b => dstC a ++ dstC b
 | .cond _ a b => dstC a ++ dstC b
 | .block _ c => dstC c
 | .loop c => dstC c
 | _ => []
theorem q0xq {P : Program} {o : Oper} {a : Act} {w : World} {next next' : Act -> World -> Prop} {Q Q' : Exit -> Act -> World -> Prop} (h : o.wp P a w next Q) (hn : ∀ a' w', next a' w' -> Same o.dst.toList a a' -> next' a' w') (hq : ∀ e a w, e ≠ .normal -> Q e a w -> Q' e a w) : o.wp P a w next' Q' := by
 unfold Oper.wp at h ⊢
 generalize (execOp a.eval o).run P w = r at h ⊢
 have hl : LetsOut Q -> LetsOut Q' := fun ⟨a, w, h⟩ => ⟨a, w, hq _ _ _ (by simp) h⟩
 cases r with
 | ok x w' =>
   cases x <;> simp only [Oper.upon] at h ⊢ <;>
    first
     | exact hn _ _ h (Same.put a o.dst _)
     | exact hn _ _ h (fun s hs => Same.put { tmps := a.tmps, defers := _ } o.dst _ s hs)
     | exact Calls.mono h (fun e w'' he => by cases e <;> first | exact hn _ _ he (Same.put a o.dst _) | exact hq _ _ _ (by simp) he | exact hl he)
     | exact Rows.mono h (fun _ _ he => hn _ _ he (Same.put a o.dst _))
     | exact h
 | halt x w' => cases x <;> simp only [Oper.upon] at h ⊢ <;> first | exact hq _ _ _ (by simp) h | exact h
theorem q0xp {P : Program} {ops : Array Oper} {Q : Exit -> Act -> World -> Prop} {a0 : Act} : ∀ (l : List Nat) (a : Act) (w : World), wpOps P ops Q l a w -> Same (dstO ops) a0 a -> wpOps P ops (fun e a' w' => Q e a' w' /\ (e = .normal -> Same (dstO ops) a0 a')) l a w
 | [], a, w, h, hs => ⟨h, fun _ => hs⟩
 | i :: l, a, w, h, hs => by
   simp only [wpOps] at h ⊢
   cases ho : ops[i]? with
   | none => rw [ho] at h; exact q0xp l a w h hs
   | some o =>
     rw [ho] at h
     simp only at h ⊢
     have hm : ∀ s ∈ o.dst.toList, s ∈ dstO ops := fun s h1 => by
      rw [← Array.getElem?_toList] at ho
      exact List.mem_filterMap.2 ⟨o, List.mem_of_getElem? ho, by simpa using h1⟩
     split
     ·rename_i hw
      rw [if_pos hw] at h
      refine h.imp (fun h => q0xq h (fun a' w' h1 h2 => q0xp l a' w' h1 (hs.trans (h2.mono hm))) fun e a w he h => ⟨h, fun h1 => (he h1).elim⟩) fun h => ⟨h.1, ?_⟩
      obtain ⟨a1, w1, h1⟩ := h.2
      exact ⟨a1, w1, h1, fun h => by cases h⟩
     ·rename_i hw
      rw [if_neg hw] at h
      exact q0xp l _ w h (hs.trans ((Same.put a o.dst _).mono hm))
def q0pq : Code -> Bool
 | .seq a b => q0pq a || q0pq b
 | .cond _ a b => q0pq a || q0pq b
 | .block _ c => q0pq c
 | .loop c => q0pq c
 | .rangeFunc _ _ _ _ => true
 | _ => false
def Sem (P : Program) (n : Nat) (c : Code) (Q : Exit -> St -> Prop) (S : St) : Prop :=
 ∀ X w0 O0 a w hs fp, Good X w0 O0 n S a w hs fp -> ∀ ro, q00c ro w0 O0 -> (q0pq c = true -> ro = none -> O0.mkp) -> c.wpIn (rF ro) 0 P (fun e a' w' => (∃ S' hs' fp', Good X w0 O0 n S' a' w' hs' fp' /\ Q e S') /\ Same (dstC c) a a') a w

def q00b (P : Program) (n : Nat) (ops : Array Oper) (l : List Nat) (S : St) (K : St -> Prop) : Prop :=
 ∀ X w0 O0 a w hs fp, Good X w0 O0 n S a w hs fp -> ∀ Q : Exit -> Act -> World -> Prop, (∀ S' a' w' hs' fp', Good X w0 O0 n S' a' w' hs' fp' -> K S' -> Q .normal a' w') -> wpOps P ops Q l a w

section
variable {P : Program} {n : Nat} {S : St}

theorem Sem.mono {c : Code} {Q Q' : Exit -> St -> Prop} (h : Sem P n c Q S) (hq : ∀ e S', Q e S' -> Q' e S') : Sem P n c Q' S :=
 fun X w0 O0 a w hs fp g ro hr hk => wpIn_mono (h X w0 O0 a w hs fp g ro hr hk) fun e a' w' ⟨⟨S', hs', fp', g', q⟩, hsm⟩ => ⟨⟨S', hs', fp', g', hq e S' q⟩, hsm⟩
theorem q00b.nil {ops : Array Oper} {K : St -> Prop} (h : K S) : q00b P n ops [] S K := fun X w0 O0 a w hs fp g Q hQ => hQ S a w hs fp g h

theorem q00b.cons {ops : Array Oper} {i : Nat} {l : List Nat} {o : Oper} {K : St -> Prop} (ho : ops[i]? = some o) (hg : o.guard = none) (h : OpW P n o S fun S' => q00b P n ops l S' K) : q00b P n ops (i :: l) S K := by
 intro X w0 O0 a w hs fp g Q hQ
 simp only [wpOps, ho]
 have hw : Region.wanted o (yielded ops a.tmps) = true := by simp [Region.wanted, hg]
 rw [if_pos hw]
 left
 exact Go.Oper.wp_mono (fun a' w' ⟨S', hs', fp', g', k⟩ => k X w0 O0 a' w' hs' fp' g' Q hQ) (h X w0 O0 a w hs fp g Q)

abbrev q0ro : A := .t (.v Go.undef)
theorem Good.noval {X : Nat -> Prop} {w0 : World} {O0 : Fr} {a : Act} {w : World} {hs : Nat -> Option Value} {fp : Nat -> List Nat} (g : Good X w0 O0 n S a w hs fp) (d : Option Nat) (hd : ∀ k, d = some k -> k < n) :
  Good X w0 O0 n (S.put d q0ro) (a.put d Go.undef) w hs fp := by
 cases d with
 | none => exact g
 | some d => exact g.put (hd d rfl) (.t (.v _))

theorem q0xy {ops : Array Oper} {tmps : Array Value} {j s : Nat} {o : Oper} {b : Bool} (hj : ops[j]? = some o) (hd : o.dst = some s) (ht : tmps[s]? = some (.bool b)) : yielded ops tmps j = some b := by
 simp [yielded, hj, hd, ht]

theorem q00b.guard {ops : Array Oper} {i j s : Nat} {want b : Bool} {l : List Nat} {o oj : Oper} {K : St -> Prop} (ho : ops[i]? = some o) (hg : o.guard = some (j, want)) (hj : ops[j]? = some oj) (hs : oj.dst = some s)
  (hb : S.env s = .t (.v (.bool b))) (hd : ∀ k, o.dst = some k -> k < n)
  (h : b = want -> OpW P n o S fun S' => q00b P n ops l S' K) (h' : b ≠ want -> q00b P n ops l (S.put o.dst q0ro) K) : q00b P n ops (i :: l) S K := by
 intro X w0 O0 a w hs' fp g Q hQ
 simp only [wpOps, ho]
 have hval := g.env s
 rw [hb] at hval
 have hval := hval.v_inv
 have ht : a.tmps[s]? = some (.bool b) := by
  rw [Array.getD_eq_getD_getElem?] at hval
  cases hx : a.tmps[s]? with
  | none => rw [hx] at hval; simp [undef] at hval
  | some v => rw [hx] at hval; simpa using hval
 have hy := q0xy hj hs ht
 by_cases hbw : b = want
 ·have hw : Region.wanted o (yielded ops a.tmps) = true := by simp [Region.wanted, hg, hy, hbw]
  rw [if_pos hw]
  left
  exact Go.Oper.wp_mono (fun a' w' ⟨S', hs', fp', g', k⟩ => k X w0 O0 a' w' hs' fp' g' Q hQ) (h hbw X w0 O0 a w hs' fp g Q)
 ·have hw : ¬ Region.wanted o (yielded ops a.tmps) = true := by simp [Region.wanted, hg, hy, hbw]
  rw [if_neg hw]
  exact h' hbw X w0 O0 _ w hs' fp (g.noval o.dst hd) Q hQ

theorem q0xz {ops : Array Oper} {tmps : Array Value} {j s : Nat} {o : Oper} {xs : Array Value} (hj : ops[j]? = some o) (hd : o.dst = some s) (ht : tmps.getD s undef = .tuple xs) : yielded ops tmps j = none := by
 rw [Array.getD_eq_getD_getElem?] at ht
 cases hx : tmps[s]? with
 | none => simp [yielded, hj, hd, hx]
 | some v =>
   rw [hx] at ht
   simp only [Option.getD_some] at ht
   simp [yielded, hj, hd, hx, ht]
theorem q00b.guardU {ops : Array Oper} {i j s : Nat} {want : Bool} {l : List Nat} {o oj : Oper} {K : St -> Prop} {xs : Array Value} (ho : ops[i]? = some o) (hg : o.guard = some (j, want)) (hj : ops[j]? = some oj) (hs : oj.dst = some s)
  (hb : S.env s = .t (.v (.tuple xs))) (hd : ∀ k, o.dst = some k -> k < n) (h' : q00b P n ops l (S.put o.dst q0ro) K) : q00b P n ops (i :: l) S K := by
 intro X w0 O0 a w hs' fp g Q hQ
 simp only [wpOps, ho]
 have hval := g.env s
 rw [hb] at hval
 have hy := q0xz hj hs hval.v_inv
 have hw : ¬ Region.wanted o (yielded ops a.tmps) = true := by simp [Region.wanted, hg, hy]
 rw [if_neg hw]
 exact h' X w0 O0 _ w hs' fp (g.noval o.dst hd) Q hQ
def q0ur (P : Program) (n : Nat) (y : Code) (Q : Exit -> St -> Prop) : Exit -> St -> Prop
 | .normal, S => Sem P n y Q S
 | e, S => Q e S
def q028 (id : Nat) (Q : Exit -> St -> Prop) : Exit -> St -> Prop
 | .exit id', S => if id' = id then Q .normal S else Q (.exit id') S
 | e, S => Q e S

theorem Sem.skip {Q : Exit -> St -> Prop} (h : Q .normal S) : Sem P n .skip Q S := fun X w0 O0 a w hs fp g ro hr _ => wpIn_skip ⟨⟨S, hs, fp, g, h⟩, .refl _ _⟩
theorem Sem.ret {Q : Exit -> St -> Prop} (h : Q .ret S) : Sem P n .ret Q S := fun X w0 O0 a w hs fp g ro hr _ => wpIn_ret ⟨⟨S, hs, fp, g, h⟩, .refl _ _⟩
theorem Sem.exit {Q : Exit -> St -> Prop} {id : Nat} (h : Q (.exit id) S) : Sem P n (.exit id) Q S := fun X w0 O0 a w hs fp g ro hr _ => wpIn_exit ⟨⟨S, hs, fp, g, h⟩, .refl _ _⟩
theorem Sem.seq {x y : Code} {Q : Exit -> St -> Prop} (h : Sem P n x (q0ur P n y Q) S) : Sem P n (.seq x y) Q S := fun X w0 O0 a w hs fp g ro hr hk =>
 wpIn_seq (wpIn_mono (h X w0 O0 a w hs fp g ro hr (fun e => hk (by simp [q0pq, e]))) fun e a' w' ⟨⟨S', hs', fp', g', q⟩, hsm⟩ => by
  have hsm := hsm.mono (l' := dstC (.seq x y)) fun s h => List.mem_append_left _ h
  cases e with
  | normal => exact wpIn_mono (q X w0 O0 a' w' hs' fp' g' ro hr (fun e => hk (by simp [q0pq, e]))) fun e a2 w2 h => ⟨h.1, hsm.trans (h.2.mono fun s h => List.mem_append_right _ h)⟩
  | _ => exact ⟨⟨S', hs', fp', g', q⟩, hsm⟩)
theorem Sem.block {id : Nat} {c : Code} {Q : Exit -> St -> Prop} (h : Sem P n c (q028 id Q) S) : Sem P n (.block id c) Q S := fun X w0 O0 a w hs fp g ro hr hk =>
 wpIn_block (wpIn_mono (h X w0 O0 a w hs fp g ro hr hk) fun e a' w' ⟨⟨S', hs', fp', g', q⟩, hsm⟩ => by
  cases e with
  | exit id' =>
    simp only [Exit.inBlock, q028] at q ⊢
    split at q
    ·rename_i h; rw [if_pos h]; exact ⟨⟨S', hs', fp', g', q⟩, hsm⟩
    ·rename_i h; rw [if_neg h]; exact ⟨⟨S', hs', fp', g', q⟩, hsm⟩
  | _ => exact ⟨⟨S', hs', fp', g', q⟩, hsm⟩)
theorem Sem.cond {c : Operand} {x y : Code} {Q : Exit -> St -> Prop} {b : Bool} (hc : S.ev c = .t (.v (.bool b))) (h1 : b = true -> Sem P n x Q S) (h2 : b = false -> Sem P n y Q S) : Sem P n (.cond c x y) Q S :=
 fun X w0 O0 a w hs fp g ro hr hk => by
  have hv := g.ev c
  rw [hc] at hv
  have hv := hv.v_inv
  refine wpIn_cond (t := b) hv ?_
  cases b
  ·exact wpIn_mono (h2 rfl X w0 O0 a w hs fp g ro hr (fun e => hk (by simp [q0pq, e]))) fun e a' w' h => ⟨h.1, h.2.mono fun s h => List.mem_append_right _ h⟩
  ·exact wpIn_mono (h1 rfl X w0 O0 a w hs fp g ro hr (fun e => hk (by simp [q0pq, e]))) fun e a' w' h => ⟨h.1, h.2.mono fun s h => List.mem_append_left _ h⟩
theorem Sem.region {id : Nat} {ops : Array Oper} {Q : Exit -> St -> Prop} (hnd : ∀ o ∈ ops.toList, ∀ c, o.op ≠ .defer c) (h : q00b P n ops (List.range ops.size) S (Q .normal)) : Sem P n (.region id ops false) Q S :=
 fun X w0 O0 a w hs fp g ro hr _ => by
  refine wpIn_mono (wpIn_region (q0xo hnd ?_ _ a w (q0xp _ a w (h X w0 O0 a w hs fp g (fun e a' w' => e = .normal /\ ∃ S' hs' fp', Good X w0 O0 n S' a' w' hs' fp' /\ Q .normal S') fun S' a' w' hs' fp' g' k => ⟨rfl, S', hs', fp', g', k⟩) (.refl _ _)))) ?_
  ·rintro ⟨_, _, ⟨h, _⟩, _⟩; cases h
  ·rintro e a' w' ⟨⟨rfl, h⟩, hsm⟩; exact ⟨h, hsm rfl⟩

def Weak (n : Nat) (S S' : St) : Prop := ∀ X w0 O0 a w hs fp, Good X w0 O0 n S a w hs fp -> ∃ hs' fp', Good X w0 O0 n S' a w hs' fp'

theorem Sem.weaken {S' : St} {c : Code} {Q : Exit -> St -> Prop} (hw : Weak n S S') (h : Sem P n c Q S') : Sem P n c Q S := fun X w0 O0 a w hs fp g ro hr hk => by
 obtain ⟨hs', fp', g'⟩ := hw X w0 O0 a w hs fp g
 exact h X w0 O0 a w hs' fp' g' ro hr hk

def q0j1 {σ : Type} (n : Nat) (mk : σ -> St) (Inv : σ -> Prop) (μ : σ -> Nat) (m : Nat) (Q : Exit -> St -> Prop) : Exit -> St -> Prop
 | .normal, S => ∃ s', Weak n S (mk s') /\ Inv s' /\ μ s' < m
 | e, S => Q e S

theorem Sem.loop {σ : Type} {c : Code} {Q : Exit -> St -> Prop} (mk : σ -> St) (Inv : σ -> Prop) (μ : σ -> Nat) (s0 : σ) (h0 : Weak n S (mk s0)) (hi : Inv s0)
  (round : ∀ s, Inv s -> Sem P n c (q0j1 n mk Inv μ (μ s) Q) (mk s)) : Sem P n (.loop c) Q S := by
 refine Sem.weaken h0 ?_
 intro X w0 O0 a w hs fp g ro hro hk b k cs hb1 hb2 hb3
 have key : ∀ m s a w hs fp, μ s = m -> Inv s -> Good X w0 O0 n (mk s) a w hs fp →
   ∃ e a' w', ((∃ S' hs' fp', Good X w0 O0 n S' a' w' hs' fp' /\ Q e S') /\ Same (dstC c) a a') /\ ArrivesIn (Machine.fenced P (rF ro)) P (lone (b.atR a (.code c :: .inLoop c :: k)) cs w) b k cs e a' w' := by
  intro m
  induction m using Nat.strongRecOn with
  | _ m ih =>
    intro s a w hs fp hm hi g
    obtain ⟨e, a₁, w₁, ⟨⟨S1, hs1, fp1, g1, q⟩, hsm⟩, harr⟩ := round s hi X w0 O0 a w hs fp g ro hro hk b (.inLoop c :: k) cs hb1 hb2 hb3
    cases e with
    | normal =>
      obtain ⟨s', hg, hi', hlt⟩ := q
      obtain ⟨hs2, fp2, g2⟩ := hg X w0 O0 a₁ w₁ hs1 fp1 g1
      obtain ⟨e₂, a₂, w₂, hq₂, harr₂⟩ := ih (μ s') (hm ▸ hlt) s' a₁ w₁ hs2 fp2 rfl hi' g2
      exact ⟨e₂, a₂, w₂, ⟨hq₂.1, hsm.trans hq₂.2⟩, .of_steps (StepsIn.trans harr (.one (fenced_calm hb2 hb3 rfl) stepR_inLoop)) harr₂⟩
    | exit id => exact ⟨_, a₁, w₁, ⟨⟨S1, hs1, fp1, g1, q⟩, hsm⟩, .pass (x := .inLoop c) rfl (fun _ _ => .inl (by simp)) harr⟩
    | goto l => exact ⟨_, a₁, w₁, ⟨⟨S1, hs1, fp1, g1, q⟩, hsm⟩, .pass (x := .inLoop c) rfl (fun _ _ => .inl (by simp)) harr⟩
    | ret => exact ⟨_, a₁, w₁, ⟨⟨S1, hs1, fp1, g1, q⟩, hsm⟩, .pass (x := .inLoop c) rfl (fun _ _ => .inl (by simp)) harr⟩
    | panic ch => exact ⟨_, a₁, w₁, ⟨⟨S1, hs1, fp1, g1, q⟩, hsm⟩, .pass (x := .inLoop c) rfl (fun _ _ => .inl (by simp)) harr⟩
    | outgrown => exact ⟨_, a₁, w₁, ⟨⟨S1, hs1, fp1, g1, q⟩, hsm⟩, .pass (x := .inLoop c) rfl (fun _ _ => .inl (by simp)) harr⟩
 obtain ⟨e, a', w', hq, harr⟩ := key _ s0 a w hs fp rfl hi g
 exact ⟨e, a', w', hq, .of_steps (.one (fenced_calm hb2 hb3 rfl) stepR_loop) harr⟩
end
end Go.Ab

/- The abstract layer, part 14: a state is described anew: slots forgotten, roots renamed or dropped, nil slices taken as owned. -/
namespace Go.Ab

def q0ke : List (Nat × A) -> Nat -> A
 | [] => fun _ => .t .any
 | (i, a) :: l => upd (q0ke l) i a
def q0kh : List (Nat × T) -> Nat -> Root
 | [] => fun _ => .free
 | (j, t) :: l => upd (q0kh l) j (.live t [])
def St.of (e : List (Nat × A)) (r : List (Nat × T)) : St := ⟨q0ke e, q0kh r⟩

inductive Le : T -> T -> Prop
 | refl (t : T) : Le t t
 | any (t : T) : Le t .any
 | nilSh (s : Nat) : Le (.v (.slice none 0 0)) (.sh s [])
 | nilArr (s : Nat) : Le (.v (.slice none 0 0)) (.arr s [])
 | arr (s : Nat) {l l' : List T} (h : l.length = l'.length) (hr : ∀ i (h : i < l.length) (h' : i < l'.length), Le l[i] l'[i]) : Le (.arr s l) (.arr s l')
 | box {l l' : List T} (h : l.length = l'.length) (hr : ∀ i (h : i < l.length) (h' : i < l'.length), Le l[i] l'[i]) : Le (.box l) (.box l')
 | agg {l l' : List T} (h : l.length = l'.length) (hr : ∀ i (h : i < l.length) (h' : i < l'.length), Le l[i] l'[i]) : Le (.agg l) (.agg l')
 | tup {l l' : List T} (h : l.length = l'.length) (hr : ∀ i (h : i < l.length) (h' : i < l'.length), Le l[i] l'[i]) : Le (.tup l) (.tup l')

theorem q0nk {w : World} {O : Nat -> Prop} {l : List T} {vs : List Value} (hr : ∀ i (h : i < l.length), Rd w O l[i] (vs.getD i undef)) :
  ∀ i (h : i < l.length), Ow w O l[i] (vs.getD i undef) ((List.replicate l.length ([] : List Nat)).getD i []) := fun i h => by
 rw [List.getD_eq_getElem?_getD (l := List.replicate _ _), List.getElem?_replicate, if_pos h]; exact .rd (hr i h)

theorem q064 {w : World} {O : Nat -> Prop} : ∀ {l l' : List T} {vs : List Value} {fps : List (List Nat)}, l.length = l'.length -> fps.length = l.length →
  (∀ i (h : i < l.length) (h' : i < l'.length) {x : Value} {fp : List Nat}, Ow w O l[i] x fp -> ∃ fp', Ow w O l'[i] x fp' /\ fp'.Sublist fp) →
  (∀ i (h : i < l.length), Ow w O l[i] (vs.getD i undef) (fps.getD i [])) -> ∃ fps' : List (List Nat), fps'.length = l'.length /\ (∀ i (h : i < l'.length), Ow w O l'[i] (vs.getD i undef) (fps'.getD i [])) /\ fps'.flatten.Sublist fps.flatten
 | [], [], vs, fps, _, _, _, _ => ⟨[], rfl, fun i h => absurd h (by simp), List.nil_sublist _⟩
 | [], _ :: _, _, _, h, _, _, _ => by simp at h
 | _ :: _, [], _, _, h, _, _, _ => by simp at h
 | _ :: _, _ :: _, _, [], _, h, _, _ => by simp at h
 | c :: l, c' :: l', vs, f :: fps, hl, hf, ih, ho => by
   obtain ⟨f', h1, h2⟩ := ih 0 (by simp) (by simp) (ho 0 (by simp))
   obtain ⟨fps', h3, h4, h5⟩ := q064 (l := l) (l' := l') (vs := vs.tail) (fps := fps) (by simpa using hl) (by simpa using hf)
    (fun i h h' x fp hx => by have := ih (i + 1) (by simpa using h) (by simpa using h') (x := x) (fp := fp); simp only [List.getElem_cons_succ] at this; exact this hx)
    (fun i h => by
     have := ho (i + 1) (by simpa using h)
     simp only [List.getElem_cons_succ, List.getD_cons_succ] at this
     have e : vs.getD (i + 1) undef = vs.tail.getD i undef := by cases vs <;> simp [List.getD_eq_getElem?_getD]
     rwa [e] at this)
   refine ⟨f' :: fps', by simp [h3], fun i h => ?_, ?_⟩
   ·cases i with
    | zero => simpa only [List.getElem_cons_zero, List.getD_cons_zero] using h1
    | succ i =>
      have := h4 i (by simpa using h)
      have e : vs.getD (i + 1) undef = vs.tail.getD i undef := by cases vs <;> simp [List.getD_eq_getElem?_getD]
      rw [e]
      simpa only [List.getElem_cons_succ, List.getD_cons_succ] using this
   ·rw [List.flatten_cons, List.flatten_cons]; exact List.Sublist.append (by simpa only [List.getD_cons_zero] using h2) h5

theorem Le.ow {w : World} {O : Nat -> Prop} {t t' : T} (h : Le t t') : ∀ {x : Value} {fp : List Nat}, Ow w O t x fp -> ∃ fp', Ow w O t' x fp' /\ fp'.Sublist fp := by
 induction h with
 | refl t => exact fun h => ⟨_, h, List.Sublist.refl _⟩
 | any t => exact fun h => ⟨[], .rd (.any _), List.nil_sublist _⟩
 | nilSh s =>
   intro x fp h
   cases h with | rd h => cases h; exact ⟨[], .rd (.shNil s), List.nil_sublist _⟩
 | nilArr s =>
   intro x fp h
   cases h with | rd h => cases h; exact ⟨[], .arrNil s, List.nil_sublist _⟩
 | arr s hl hr ih =>
   intro x fp h
   cases h with
   | rd h => cases h
   | arrNil =>
     rename_i l'
     have : l' = [] := List.eq_nil_of_length_eq_zero (by simpa using hl.symm)
     subst this; exact ⟨[], .arrNil s, List.nil_sublist _⟩
   | arr _ _ b len cap cs e fps hb hlen hc hm hsz hf ho =>
     obtain ⟨fps', h1, h2, h3⟩ := q064 (vs := cs.toList) hl hf (fun i h h' x fp => ih i h h') (fun i h => by simpa [Array.getD_eq_getD_getElem?, List.getD_eq_getElem?_getD] using ho i h)
     exact ⟨b :: fps'.flatten, .arr s _ b len cap cs e fps' hb (by omega) hc hm hsz (by omega) (fun i h => by simpa [Array.getD_eq_getD_getElem?, List.getD_eq_getElem?_getD] using h2 i h), h3.cons_cons b⟩
 | box hl hr ih =>
   intro x fp h
   cases h with
   | rd h => cases h
   | box _ b cs e fps hb hlen hf ho =>
     obtain ⟨fps', h1, h2, h3⟩ := q064 (vs := cs.toList) hl hf (fun i h h' x fp => ih i h h') (fun i h => by simpa [Array.getD_eq_getD_getElem?, List.getD_eq_getElem?_getD] using ho i h)
     exact ⟨b :: fps'.flatten, .box _ b cs e fps' hb (by omega) (by omega) (fun i h => by simpa [Array.getD_eq_getD_getElem?, List.getD_eq_getElem?_getD] using h2 i h), h3.cons_cons b⟩
 | agg hl hr ih =>
   intro x fp h
   cases h with
   | rd h =>
     cases h with
     | agg _ vs hlen hc =>
       obtain ⟨fps', h1, h2, h3⟩ := q064 (vs := vs) hl (by simp) (fun i h h' x fp => ih i h h') (q0nk hc)
       exact ⟨fps'.flatten, .agg _ vs fps' (by omega) h1 h2, by simpa using h3⟩
   | agg _ vs fps hlen hf ho =>
     obtain ⟨fps', h1, h2, h3⟩ := q064 (vs := vs) hl hf (fun i h h' x fp => ih i h h') ho
     exact ⟨fps'.flatten, .agg _ vs fps' (by omega) h1 h2, h3⟩
 | tup hl hr ih =>
   intro x fp h
   cases h with
   | rd h =>
     cases h with
     | tup _ vs hlen hc =>
       obtain ⟨fps', h1, h2, h3⟩ := q064 (vs := vs) hl (by simp) (fun i h h' x fp => ih i h h') (q0nk hc)
       exact ⟨fps'.flatten, .tup _ vs fps' (by omega) h1 h2, by simpa using h3⟩
   | tup _ vs fps hlen hf ho =>
     obtain ⟨fps', h1, h2, h3⟩ := q064 (vs := vs) hl hf (fun i h h' x fp => ih i h h') ho
     exact ⟨fps'.flatten, .tup _ vs fps' (by omega) h1 h2, h3⟩

def maT (x y : T) : Prop := x = y ∨ ((∃ s, x = .sh s []) /\ y = .v (.slice none 0 0))

mutual
def maA (π : Nat -> Option (Option Nat)) : A -> A -> Prop
 | .t x, a => (match a with | .t y => x = .any ∨ maT x y | _ => x = .any)
 | .own j, a => (match a with | .own r => π j = some (some r) | .t y => π j = some none /\ y = .v (.slice none 0 0) | _ => False)
 | .sub j o m, a => (match a with | .sub r o' m' => π j = some (some r) /\ o = o' /\ m = m' | _ => False)
 | .ptr j o, a => (match a with | .ptr r o' => π j = some (some r) /\ o = o' | _ => False)
 | .agg l, a => (match a with | .agg l' => maL π l l' | _ => False)
 | .tup l, a => (match a with | .tup l' => maL π l l' | _ => False)
 | .fn f l, a => (match a with | .fn f' l' => f = f' /\ maL π l l' | _ => False)
def maL (π : Nat -> Option (Option Nat)) : List A -> List A -> Prop
 | [], l => l = []
 | a :: l, l' => (match l' with | b :: l' => maA π a b /\ maL π l l' | [] => False)
end

section
variable {w : World} {O O' : Nat -> Prop} {hs hs' : Nat -> Option Value} {π : Nat -> Option (Option Nat)}

theorem q0j9 {x y : T} {v : Value} (h : maT x y) (hr : Rd w O y v) : Rd w O x v := by
 rcases h with rfl | ⟨⟨s, rfl⟩, rfl⟩
 ·exact hr
 ·cases hr; exact .shNil s

mutual
theorem q0j7 (hO : ∀ b, ¬ O b -> b < w.heap.size -> ¬ O' b) (hh : ∀ j r h, π j = some (some r) -> hs r = some h -> hs' j = some h) (hn : ∀ j, π j = some none -> hs' j = some (.slice none 0 0)) :
  ∀ (a' a : A) {x : Value}, maA π a' a -> Is w O hs a x -> Is w O' hs' a' x
 | .t y, a, x, h, hx => by
   cases a with
   | t y' =>
     simp only [maA] at h
     rcases h with rfl | h
     ·exact .t (.any _)
     ·cases hx with | t hx => exact .t ((q0j9 h hx).mono (fun _ _ _ _ _ h => h) hO)
   | _ => simp only [maA] at h; subst h; exact .t (.any _)
 | .own j, a, x, h, hx => by
   cases a with
   | own r => simp only [maA] at h; cases hx with | own hr => exact .own (hh _ _ _ h hr)
   | t y =>
     simp only [maA] at h
     obtain ⟨h1, rfl⟩ := h
     cases hx with | t hx => cases hx; exact .own (hn _ h1)
   | _ => simp only [maA] at h
 | .sub j o m, a, x, h, hx => by
   cases a with
   | sub r o' m' =>
     simp only [maA] at h
     obtain ⟨h1, rfl, rfl⟩ := h
     cases hx with
     | sub hr hc => exact .sub (hh _ _ _ h1 hr) hc
     | subZ hr => exact .subZ (hh _ _ _ h1 hr)
     | subNil hr => exact .subNil (hh _ _ _ h1 hr)
   | _ => simp only [maA] at h
 | .ptr j o, a, x, h, hx => by
   cases a with
   | ptr r o' =>
     simp only [maA] at h
     obtain ⟨h1, rfl⟩ := h
     cases hx with
     | ptrS hr => exact .ptrS (hh _ _ _ h1 hr)
     | ptrP hr => exact .ptrP (hh _ _ _ h1 hr)
   | _ => simp only [maA] at h
 | .agg l, a, x, h, hx => by
   cases a with
   | agg l' =>
     simp only [maA] at h
     cases hx with | agg hl hr => obtain ⟨h1, h2⟩ := q0j8 hO hh hn l l' h hr; exact .agg (by omega) h2
   | _ => simp only [maA] at h
 | .tup l, a, x, h, hx => by
   cases a with
   | tup l' =>
     simp only [maA] at h
     cases hx with | tup hl hr => obtain ⟨h1, h2⟩ := q0j8 hO hh hn l l' h hr; exact .tup (by omega) h2
   | _ => simp only [maA] at h
 | .fn f l, a, x, h, hx => by
   cases a with
   | fn f' l' =>
     simp only [maA] at h
     obtain ⟨rfl, h⟩ := h
     cases hx with | fn hl hr => obtain ⟨h1, h2⟩ := q0j8 hO hh hn l l' h hr; exact .fn (by omega) h2
   | _ => simp only [maA] at h
theorem q0j8 (hO : ∀ b, ¬ O b -> b < w.heap.size -> ¬ O' b) (hh : ∀ j r h, π j = some (some r) -> hs r = some h -> hs' j = some h) (hn : ∀ j, π j = some none -> hs' j = some (.slice none 0 0)) :
  ∀ (l l' : List A) {vs : List Value}, maL π l l' -> (∀ i (h : i < l'.length), Is w O hs l'[i] (vs.getD i undef)) -> l.length = l'.length /\ ∀ i (h : i < l.length), Is w O' hs' l[i] (vs.getD i undef)
 | [], l', vs, h, hx => by simp only [maL] at h; subst h; exact ⟨rfl, fun i h => absurd h (by simp)⟩
 | a :: l, [], vs, h, hx => by simp only [maL] at h
 | a :: l, b :: l', vs, h, hx => by
   simp only [maL] at h
   have h0 := q0j7 hO hh hn a b h.1 (by have := hx 0 (by simp); simpa only [List.getElem_cons_zero] using this)
   have e : ∀ i, vs.getD (i + 1) undef = vs.tail.getD i undef := fun i => by cases vs <;> simp [List.getD_eq_getElem?_getD]
   obtain ⟨h1, h2⟩ := q0j8 hO hh hn l l' (vs := vs.tail) h.2 (fun i hi => by
    have := hx (i + 1) (by simpa using hi)
    rw [e] at this
    simpa only [List.getElem_cons_succ] using this)
   refine ⟨by simp [h1], fun i hi => ?_⟩
   cases i with
   | zero => simpa only [List.getElem_cons_zero] using h0
   | succ i => rw [e]; simpa only [List.getElem_cons_succ] using h2 i (by simpa using hi)
end
end

def q08f (S : St) (π : Nat -> Option (Option Nat)) : List (Nat × A) -> Prop
 | [] => True
 | (i, a) :: e => maA π a (S.env i) /\ q08f S π e

def q0py (S : St) : List (Nat × T) -> List (Option Nat) -> Prop
 | [], [] => True
 | (_, t) :: r, some q :: ss => (∃ t0, S.roots q = .live t0 [] /\ Le t0 t) /\ t.rooty = true /\ q0py S r ss
 | (_, t) :: r, none :: ss => (∃ s, t = .arr s []) /\ q0py S r ss
 | _, _ => False

def piOf (r : List (Nat × T)) (ss : List (Option Nat)) (j : Nat) : Option (Option Nat) := ((r.map (·.1)).zip ss).lookup j

theorem q0kg {S : St} {π : Nat -> Option (Option Nat)} : ∀ (e : List (Nat × A)), q08f S π e -> ∀ i, maA π (q0ke e i) (S.env i)
 | [], _, i => by simp only [q0ke]; cases S.env i <;> simp [maA]
 | (k, a) :: e, h, i => by
   simp only [q0ke, q0x0]
   split
   ·rename_i hk; subst hk; exact h.1
   ·exact q0kg e h.2 i

theorem q0kj {S : St} : ∀ (r : List (Nat × T)) (ss : List (Option Nat)), q0py S r ss -> ∀ j,
  (q0kh r j = .free /\ piOf r ss j = none) ∨ (∃ t, q0kh r j = .live t [] /\ t.rooty = true /\ ((∃ q t0, piOf r ss j = some (some q) /\ S.roots q = .live t0 [] /\ Le t0 t) ∨ (piOf r ss j = some none /\ ∃ s, t = .arr s [])))
 | [], [], _, j => .inl ⟨rfl, rfl⟩
 | [], _ :: _, h, j => by simp [q0py] at h
 | _ :: _, [], h, j => by simp [q0py] at h
 | (k, t) :: r, some q :: ss, h, j => by
   obtain ⟨⟨t0, h1, h2⟩, h3, h4⟩ := h
   by_cases hk : j = k
   ·subst hk; exact .inr ⟨t, by simp [q0kh, q0x2], h3, .inl ⟨q, t0, by simp [piOf], h1, h2⟩⟩
   ·have e : piOf ((k, t) :: r) (some q :: ss) j = piOf r ss j := by
     have : (j == k) = false := by simpa using hk
     simp [piOf, List.lookup_cons, this]
    have e2 : q0kh ((k, t) :: r) j = q0kh r j := by simp [q0kh, q0x1 _ _ _ _ hk]
    rw [e, e2]; exact q0kj r ss h4 j
 | (k, t) :: r, none :: ss, h, j => by
   obtain ⟨⟨s, rfl⟩, h4⟩ := h
   by_cases hk : j = k
   ·subst hk; exact .inr ⟨.arr s [], by simp [q0kh, q0x2], rfl, .inr ⟨by simp [piOf], s, rfl⟩⟩
   ·have e : piOf ((k, .arr s []) :: r) (none :: ss) j = piOf r ss j := by
     have : (j == k) = false := by simpa using hk
     simp [piOf, List.lookup_cons, this]
    have e2 : q0kh ((k, .arr s []) :: r) j = q0kh r j := by simp [q0kh, q0x1 _ _ _ _ hk]
    rw [e, e2]; exact q0kj r ss h4 j

theorem q0ix : ∀ {ps : List (Nat × Option Nat)} {j j' q : Nat}, (ps.filterMap (·.2)).Nodup -> ps.lookup j = some (some q) -> ps.lookup j' = some (some q) -> j = j'
 | [], j, j', q, _, h, _ => by simp at h
 | (k, s) :: ps, j, j', q, hn, h, h' => by
   have mem : ∀ {ps : List (Nat × Option Nat)} {j : Nat}, ps.lookup j = some (some q) -> q ∈ ps.filterMap (·.2) := by
    intro ps
    induction ps with
    | nil => intro j h; simp at h
    | cons p ps ih =>
      intro j h
      obtain ⟨k, s⟩ := p
      rw [List.lookup_cons] at h
      split at h
      ·cases h; simp
      ·have := ih h
       cases s with
       | none => simpa using this
       | some s => rw [List.filterMap_cons_some (by rfl)]; exact List.mem_cons_of_mem _ this
   rw [List.lookup_cons] at h h'
   by_cases h1 : j = k <;> by_cases h2 : j' = k
   ·omega
   ·have e1 : (j == k) = true := by simpa using h1
    have e2 : (j' == k) = false := by simpa using h2
    simp only [e1, e2] at h h'
    cases h
    rw [List.filterMap_cons_some (by rfl)] at hn
    exact ((List.nodup_cons.1 hn).1 (mem h')).elim
   ·have e1 : (j == k) = false := by simpa using h1
    have e2 : (j' == k) = true := by simpa using h2
    simp only [e1, e2] at h h'
    cases h'
    rw [List.filterMap_cons_some (by rfl)] at hn
    exact ((List.nodup_cons.1 hn).1 (mem h)).elim
   ·have e1 : (j == k) = false := by simpa using h1
    have e2 : (j' == k) = false := by simpa using h2
    simp only [e1, e2] at h h'
    refine q0ix (ps := ps) ?_ h h'
    cases s with
    | none => simpa using hn
    | some s => rw [List.filterMap_cons_some (by rfl)] at hn; exact (List.nodup_cons.1 hn).2

theorem Weak.of {n : Nat} {S : St} (e : List (Nat × A)) (r : List (Nat × T)) (ss : List (Option Nat)) (hd : (((r.map (·.1)).zip ss).filterMap (·.2)).Nodup) (hb : ∀ p ∈ (r.map (·.1)).zip ss, p.1 < 1000000000 ∨ p.2 = some p.1) (he : q08f S (piOf r ss) e) (hr : q0py S r ss) : Weak n S (St.of e r) := by
 intro X w0 O0 a w hs fp g
 have spec := q0kj r ss hr
 let hs' : Nat -> Option Value := fun j => match piOf r ss j with | some (some q) => hs q | some none => some (.slice none 0 0) | none => none
 have hh : ∀ j q h, piOf r ss j = some (some q) -> hs q = some h -> hs' j = some h := fun j q h h1 h2 => by simp only [hs', h1]; exact h2
 have hn : ∀ j, piOf r ss j = some none -> hs' j = some (.slice none 0 0) := fun j h => by simp only [hs', h]
 have inj : ∀ j j' q, piOf r ss j = some (some q) -> piOf r ss j' = some (some q) -> j = j' := fun j j' q h h' => q0ix hd h h'
 -- the footprints
 have fps : ∀ j, ∃ f : List Nat, ((∃ q t0 t, piOf r ss j = some (some q) /\ q0kh r j = .live t [] /\ t.rooty = true /\ S.roots q = .live t0 [] /\ f.Sublist (fp q) /\ ∃ x, hs' j = some x /\ Ow w (Ob X fp) t x f) ∨
   (f = [] /\ piOf r ss j = some none /\ ∃ s, q0kh r j = .live (.arr s []) []) ∨ (f = [] /\ piOf r ss j = none /\ q0kh r j = .free)) := by
  intro j
  rcases spec j with ⟨h1, h2⟩ | ⟨t, h1, hrt, ⟨q, t0, h2, h3, h4⟩ | ⟨h2, s, rfl⟩⟩
  ·exact ⟨[], .inr (.inr ⟨rfl, h2, h1⟩)⟩
  ·have hroot := g.root q
   rw [h3] at hroot
   obtain ⟨x, hx, ho, _⟩ := hroot
   obtain ⟨f, ho', hsub⟩ := h4.ow ho
   exact ⟨f, .inl ⟨q, t0, t, h2, h1, hrt, h3, hsub, x, hh _ _ _ h2 hx, ho'⟩⟩
  ·exact ⟨[], .inr (.inl ⟨rfl, h2, s, h1⟩)⟩
 let fp' : Nat -> List Nat := fun j => (fps j).choose
 have hfp : ∀ j, _ := fun j => (fps j).choose_spec
 have sub : ∀ j b, b ∈ fp' j -> ∃ q, piOf r ss j = some (some q) /\ b ∈ fp q := by
  intro j b hb
  rcases hfp j with ⟨q, t0, t, h1, _, _, _, h2, _⟩ | ⟨h, _⟩ | ⟨h, _⟩
  ·exact ⟨q, h1, h2.subset hb⟩
  ·have hb' : b ∈ (fps j).choose := hb; rw [h] at hb'; simp at hb'
  ·have hb' : b ∈ (fps j).choose := hb; rw [h] at hb'; simp at hb'
 have hO : ∀ b, ¬ Ob X fp b -> b < w.heap.size -> ¬ Ob X fp' b := by
  rintro b h1 _ (h | ⟨j, hj⟩)
  ·exact h1 (.inl h)
  ·obtain ⟨q, _, hq⟩ := sub j b hj; exact h1 (.inr ⟨q, hq⟩)
 refine ⟨hs', fp', g.size, g.defers, fun i => q0j7 hO hh hn _ _ (q0kg e he i) (g.env i), fun j => ?_, fun j j' b h h' => ?_, fun j => ?_, fun j b h => ?_, g.xold, g.xout, fun j b h => ?_, g.hist, fun j t lk h => ?_, fun j h hj => ?_, g.small, fun j h hj0 hj => ?_⟩
 ·show q00d w _ hs' (q0kh r j) (hs' j) (fp' j)
  rcases hfp j with ⟨q, t0, t, h1, h2, hrt, h3, h4, x, hx, ho⟩ | ⟨h1, h2, s, h3⟩ | ⟨h1, h2, h3⟩
  ·rw [h2]; exact ⟨x, hx, ho.mono (fun _ _ _ _ _ h => h) hO (fun _ _ _ _ _ h => h), fun p hp => by simp at hp⟩
  ·rw [h3, show fp' j = [] from h1]; exact ⟨_, hn j h2, .arrNil s, fun p hp => by simp at hp⟩
  ·rw [h3]; exact ⟨by simp only [hs', h2], h1⟩
 ·obtain ⟨q, h1, h2⟩ := sub j b h
  obtain ⟨q', h1', h2'⟩ := sub j' b h'
  have := g.disj q q' b h2 h2'
  subst this
  exact inj j j' q h1 h1'
 ·rcases hfp j with ⟨q, t0, t, _, _, _, _, h4, _⟩ | ⟨h1, _⟩ | ⟨h1, _⟩
  ·exact h4.nodup (g.nodup q)
  ·rw [show fp' j = [] from h1]; simp
  ·rw [show fp' j = [] from h1]; simp
 ·obtain ⟨q, _, hq⟩ := sub j b h; exact g.foreign q b hq
 ·obtain ⟨q, _, hq⟩ := sub j b h; exact g.mine q b hq
 ·have h : q0kh r j = .live t lk := h
  rcases spec j with ⟨h1, _⟩ | ⟨t', h1, hrt, _⟩ <;> rw [h1] at h
  ·cases h
  ·cases h; exact hrt
 ·simp only [hs'] at hj
  split at hj
  ·exact g.hdr _ _ hj
  ·cases hj; rfl
  ·cases hj
 ·have mem : ∀ {ps : List (Nat × Option Nat)} {j : Nat} {s : Option Nat}, ps.lookup j = some s -> (j, s) ∈ ps := by
   intro ps
   induction ps with
   | nil => intro j s h; simp at h
   | cons p ps ih =>
     intro j s h
     obtain ⟨k, s'⟩ := p
     rw [List.lookup_cons] at h
     split at h
     ·rename_i he; cases h; have : j = k := by simpa using he
      subst this; simp
     ·exact List.mem_cons_of_mem _ (ih h)
  simp only [hs'] at hj
  split at hj
  ·rename_i q hq
   rcases hb _ (mem hq) with h1 | h1
   ·simp only at h1; omega
   ·simp only [Option.some.injEq] at h1; subst h1; exact g.pin _ _ hj0 hj
  ·rename_i hq
   rcases hb _ (mem hq) with h1 | h1
   ·simp only at h1; omega
   ·cases h1
  ·cases hj
end Go.Ab
