/- The abstract layer, part 1: data trees, when a value in memory reads as a tree, what is kept when memory changes. -/
import Derived.WalkKit
import Derived.WalkLawsBesides
set_option linter.unusedSimpArgs false
set_option linter.unusedVariables false
namespace Go.Ab


/-- A datum: 'sh' a slice that is only read (cells of 's' per element), 'arr' a slice that is owned, 'box' an owned variable behind a pointer, 'pin' a pointer into memory that is only read. -/
inductive T where
  | any
  | v (x : Value)
  | sh (s : Nat) (l : List T)
  | arr (s : Nat) (l : List T)
  | box (l : List T)
  | pin (l : List T) (off : Nat)
  | fn (f : Nat) (cap : List T)
  | agg (l : List T)
  | tup (l : List T)

abbrev T.i (n : Int) : T := .v (.int .i64 n)
abbrev T.b (b : Bool) : T := .v (.bool b)

inductive Rd (w : World) (O : Nat → Prop) : T → Value → Prop
  | any (x : Value) : Rd w O .any x
  | v (x : Value) : Rd w O (.v x) x
  | shNil (s : Nat) : Rd w O (.sh s []) (.slice none 0 0)
  | shZ (s : Nat) (ad : Addr) (cap : Nat) : Rd w O (.sh s []) (.slice (some ad) 0 cap)
  | sh (s : Nat) (l : List T) (b off len cap : Nat) (cs : Array Value) (e : TypeId) (fz : Nat × Nat) (hO : ¬ O b) (hb : w.heap[b]? = some (.cells cs e fz))
      (hsz : off + l.length ≤ cs.size) (hl : l.length = len * s) (hc : len ≤ cap) (hr : ∀ i (h : i < l.length), Rd w O l[i] (cs.getD (off + i) undef)) :
      Rd w O (.sh s l) (.slice (some ⟨b, off, none⟩) len cap)
  | pin (l : List T) (off b o : Nat) (cs : Array Value) (e : TypeId) (fz : Nat × Nat) (hO : ¬ O b) (hb : w.heap[b]? = some (.cells cs e fz))
      (hsz : o + l.length ≤ cs.size) (hr : ∀ i (h : i < l.length), Rd w O l[i] (cs.getD (o + i) undef)) :
      Rd w O (.pin l off) (.pointer (some ⟨b, o + off, none⟩))
  | fn (f : Nat) (cap : List T) (vs : List Value) (hl : vs.length = cap.length) (hr : ∀ i (h : i < cap.length), Rd w O cap[i] (vs.getD i undef)) :
      Rd w O (.fn f cap) (.func (.func f) #[] vs.toArray)
  | agg (l : List T) (vs : List Value) (hl : vs.length = l.length) (hr : ∀ i (h : i < l.length), Rd w O l[i] (vs.getD i undef)) : Rd w O (.agg l) (.agg vs.toArray)
  | tup (l : List T) (vs : List Value) (hl : vs.length = l.length) (hr : ∀ i (h : i < l.length), Rd w O l[i] (vs.getD i undef)) : Rd w O (.tup l) (.tuple vs.toArray)

inductive Ow (w : World) (O : Nat → Prop) : T → Value → List Nat → Prop
  | rd {t : T} {x : Value} (h : Rd w O t x) : Ow w O t x []
  | arrNil (s : Nat) : Ow w O (.arr s []) (.slice none 0 0) []
  | arr (s : Nat) (l : List T) (b len cap : Nat) (cs : Array Value) (e : TypeId) (fps : List (List Nat)) (hb : w.heap[b]? = some (.cells cs e (0, 0)))
      (hl : l.length = len * s) (hc : len ≤ cap) (hm : cap ≤ maxLen) (hsz : cs.size = cap * s) (hf : fps.length = l.length)
      (hr : ∀ i (h : i < l.length), Ow w O l[i] (cs.getD i undef) (fps.getD i [])) : Ow w O (.arr s l) (.slice (some ⟨b, 0, none⟩) len cap) (b :: fps.flatten)
  | box (l : List T) (b : Nat) (cs : Array Value) (e : TypeId) (fps : List (List Nat)) (hb : w.heap[b]? = some (.cells cs e (0, 0)))
      (hl : l.length = cs.size) (hf : fps.length = l.length)
      (hr : ∀ i (h : i < l.length), Ow w O l[i] (cs.getD i undef) (fps.getD i [])) : Ow w O (.box l) (.pointer (some ⟨b, 0, none⟩)) (b :: fps.flatten)
  | agg (l : List T) (vs : List Value) (fps : List (List Nat)) (hl : vs.length = l.length) (hf : fps.length = l.length)
      (hr : ∀ i (h : i < l.length), Ow w O l[i] (vs.getD i undef) (fps.getD i [])) : Ow w O (.agg l) (.agg vs.toArray) fps.flatten
  | tup (l : List T) (vs : List Value) (fps : List (List Nat)) (hl : vs.length = l.length) (hf : fps.length = l.length)
      (hr : ∀ i (h : i < l.length), Ow w O l[i] (vs.getD i undef) (fps.getD i [])) : Ow w O (.tup l) (.tuple vs.toArray) fps.flatten

/-- w' keeps the rows of cells of w that lie in blocks with p. -/
def Keeps (p : Nat → Prop) (w w' : World) : Prop := ∀ b cs e fz, p b → w.heap[b]? = some (.cells cs e fz) → w'.heap[b]? = some (.cells cs e fz)

theorem Rd.mono {w w' : World} {O O' : Nat → Prop} {t : T} {x : Value} (h : Rd w O t x) (hk : Keeps (fun b => ¬ O b) w w')
    (hO : ∀ b, ¬ O b → b < w.heap.size → ¬ O' b) : Rd w' O' t x := by
  induction h with
  | any x => exact .any x
  | v x => exact .v x
  | shNil s => exact .shNil s
  | shZ s ad cap => exact .shZ s ad cap
  | sh s l b off len cap cs e fz hn hb hsz hl hc hr ih =>
    exact .sh s l b off len cap cs e fz (hO b hn (Array.getElem?_eq_some_iff.1 hb).1) (hk b cs e fz hn hb) hsz hl hc ih
  | pin l off b o cs e fz hn hb hsz hr ih =>
    exact .pin l off b o cs e fz (hO b hn (Array.getElem?_eq_some_iff.1 hb).1) (hk b cs e fz hn hb) hsz ih
  | fn f cap vs hl hr ih => exact .fn f cap vs hl ih
  | agg l vs hl hr ih => exact .agg l vs hl ih
  | tup l vs hl hr ih => exact .tup l vs hl ih

theorem mem_flatten_getD {fps : List (List Nat)} {i b : Nat} (h : b ∈ fps.getD i []) : b ∈ fps.flatten := by
  rw [List.getD_eq_getElem?_getD] at h
  cases hi : fps[i]? with
  | none => rw [hi] at h; simp at h
  | some f => rw [hi] at h; exact List.mem_flatten.2 ⟨f, List.mem_of_getElem? hi, h⟩

theorem Ow.mono {w w' : World} {O O' : Nat → Prop} {t : T} {x : Value} {fp : List Nat} (h : Ow w O t x fp) (hk : Keeps (fun b => ¬ O b) w w')
    (hO : ∀ b, ¬ O b → b < w.heap.size → ¬ O' b) (hf : Keeps (fun b => b ∈ fp) w w') : Ow w' O' t x fp := by
  induction h with
  | rd h => exact .rd (h.mono hk hO)
  | arrNil s => exact .arrNil s
  | arr s l b len cap cs e fps hb hl hc hm hsz hfl hr ih =>
    exact .arr s l b len cap cs e fps (hf b cs e _ (by simp) hb) hl hc hm hsz hfl fun i h => ih i h fun b' cs' e' fz' hm hb' => hf b' cs' e' fz' (List.mem_cons_of_mem _ (mem_flatten_getD hm)) hb'
  | box l b cs e fps hb hl hfl hr ih =>
    exact .box l b cs e fps (hf b cs e _ (by simp) hb) hl hfl fun i h => ih i h fun b' cs' e' fz' hm hb' => hf b' cs' e' fz' (List.mem_cons_of_mem _ (mem_flatten_getD hm)) hb'
  | agg l vs fps hl hfl hr ih =>
    exact .agg l vs fps hl hfl fun i h => ih i h fun b' cs' e' fz' hm hb' => hf b' cs' e' fz' (mem_flatten_getD hm) hb'
  | tup l vs fps hl hfl hr ih =>
    exact .tup l vs fps hl hfl fun i h => ih i h fun b' cs' e' fz' hm hb' => hf b' cs' e' fz' (mem_flatten_getD hm) hb'

theorem Ow.lt {w : World} {O : Nat → Prop} {t : T} {x : Value} {fp : List Nat} (h : Ow w O t x fp) : ∀ b ∈ fp, b < w.heap.size := by
  induction h with
  | rd h => simp
  | arrNil s => simp
  | arr s l b len cap cs e fps hb hl hc hm hsz hfl hr ih =>
    intro b' hb'
    rcases List.mem_cons.1 hb' with rfl | h'
    · exact (Array.getElem?_eq_some_iff.1 hb).1
    · obtain ⟨f, hf, hbf⟩ := List.mem_flatten.1 h'
      obtain ⟨i, hi, rfl⟩ := List.mem_iff_getElem.1 hf
      exact ih i (by omega) b' (by rw [List.getD_eq_getElem?_getD, List.getElem?_eq_getElem hi]; exact hbf)
  | box l b cs e fps hb hl hfl hr ih =>
    intro b' hb'
    rcases List.mem_cons.1 hb' with rfl | h'
    · exact (Array.getElem?_eq_some_iff.1 hb).1
    · obtain ⟨f, hf, hbf⟩ := List.mem_flatten.1 h'
      obtain ⟨i, hi, rfl⟩ := List.mem_iff_getElem.1 hf
      exact ih i (by omega) b' (by rw [List.getD_eq_getElem?_getD, List.getElem?_eq_getElem hi]; exact hbf)
  | agg l vs fps hl hfl hr ih =>
    intro b' h'
    obtain ⟨f, hf, hbf⟩ := List.mem_flatten.1 h'
    obtain ⟨i, hi, rfl⟩ := List.mem_iff_getElem.1 hf
    exact ih i (by omega) b' (by rw [List.getD_eq_getElem?_getD, List.getElem?_eq_getElem hi]; exact hbf)
  | tup l vs fps hl hfl hr ih =>
    intro b' h'
    obtain ⟨f, hf, hbf⟩ := List.mem_flatten.1 h'
    obtain ⟨i, hi, rfl⟩ := List.mem_iff_getElem.1 hf
    exact ih i (by omega) b' (by rw [List.getD_eq_getElem?_getD, List.getElem?_eq_getElem hi]; exact hbf)

/-- What sits in a slot: a closed datum that owns nothing ('t'), the whole of a root, a part of it, a pointer into it. -/
inductive A where
  | t (x : T)
  | own (r : Nat)
  | sub (r off len : Nat)
  | ptr (r off : Nat)
  | agg (l : List A)
  | tup (l : List A)
  | fn (f : Nat) (cap : List A)

abbrev A.v (x : Value) : A := .t (.v x)
abbrev A.i (n : Int) : A := .t (.v (.int .i64 n))
abbrev A.b (b : Bool) : A := .t (.v (.bool b))

inductive Is (w : World) (O : Nat → Prop) (hs : Nat → Option Value) : A → Value → Prop
  | t {x : T} {y : Value} (h : Rd w O x y) : Is w O hs (.t x) y
  | own {r : Nat} {h : Value} (hr : hs r = some h) : Is w O hs (.own r) h
  | sub {r off len b n cap c : Nat} (hr : hs r = some (.slice (some ⟨b, 0, none⟩) n cap)) (hc : len ≤ c) : Is w O hs (.sub r off len) (.slice (some ⟨b, off, none⟩) len c)
  | subZ {r off b n cap c : Nat} (hr : hs r = some (.slice (some ⟨b, 0, none⟩) n cap)) : Is w O hs (.sub r off 0) (.slice (some ⟨b, 0, none⟩) 0 c)
  | subNil {r : Nat} (hr : hs r = some (.slice none 0 0)) : Is w O hs (.sub r 0 0) (.slice none 0 0)
  | ptrS {r off b n cap : Nat} (hr : hs r = some (.slice (some ⟨b, 0, none⟩) n cap)) : Is w O hs (.ptr r off) (.pointer (some ⟨b, off, none⟩))
  | ptrP {r off b : Nat} (hr : hs r = some (.pointer (some ⟨b, 0, none⟩))) : Is w O hs (.ptr r off) (.pointer (some ⟨b, off, none⟩))
  | agg {l : List A} {vs : List Value} (hl : vs.length = l.length) (hr : ∀ i (h : i < l.length), Is w O hs l[i] (vs.getD i undef)) : Is w O hs (.agg l) (.agg vs.toArray)
  | tup {l : List A} {vs : List Value} (hl : vs.length = l.length) (hr : ∀ i (h : i < l.length), Is w O hs l[i] (vs.getD i undef)) : Is w O hs (.tup l) (.tuple vs.toArray)
  | fn {f : Nat} {cap : List A} {vs : List Value} (hl : vs.length = cap.length) (hr : ∀ i (h : i < cap.length), Is w O hs cap[i] (vs.getD i undef)) :
      Is w O hs (.fn f cap) (.func (.func f) #[] vs.toArray)

theorem Is.mono {w w' : World} {O O' : Nat → Prop} {hs hs' : Nat → Option Value} {a : A} {x : Value} (h : Is w O hs a x) (hk : Keeps (fun b => ¬ O b) w w')
    (hO : ∀ b, ¬ O b → b < w.heap.size → ¬ O' b) (hh : ∀ r h, hs r = some h → hs' r = some h) : Is w' O' hs' a x := by
  induction h with
  | t h => exact .t (h.mono hk hO)
  | own hr => exact .own (hh _ _ hr)
  | sub hr hc => exact .sub (hh _ _ hr) hc
  | subZ hr => exact .subZ (hh _ _ hr)
  | subNil hr => exact .subNil (hh _ _ hr)
  | ptrS hr => exact .ptrS (hh _ _ hr)
  | ptrP hr => exact .ptrP (hh _ _ hr)
  | agg hl _ ih => exact .agg hl ih
  | tup hl _ ih => exact .tup hl ih
  | fn hl _ ih => exact .fn hl ih

/-- A root: not in use, spent, or live with its content and the cells that hold another root's header. -/
inductive Root where
  | free
  | dead
  | live (t : T) (lk : List (Nat × Nat))

structure St where
  env : Nat → A
  roots : Nat → Root

def upd {α : Type} (f : Nat → α) (d : Nat) (a : α) : Nat → α := fun i => if i = d then a else f i
theorem upd_apply {α : Type} (f : Nat → α) (d : Nat) (a : α) (i : Nat) : upd f d a i = if i = d then a else f i := rfl
theorem upd_self {α : Type} (f : Nat → α) (d : Nat) (a : α) : upd f d a d = a := by simp [upd]
theorem upd_other {α : Type} (f : Nat → α) (d : Nat) (a : α) (i : Nat) (h : i ≠ d) : upd f d a i = f i := by simp [upd, h]

def St.put (S : St) (d : Option Nat) (a : A) : St :=
  match d with
  | some d => { S with env := upd S.env d a }
  | none => S

def cellOf (w : World) (h : Value) (k : Nat) : Option Value :=
  match h with
  | .slice (some a) _ _ => w.cell? ⟨a.block, a.off + k, none⟩
  | .pointer (some a) => w.cell? ⟨a.block, a.off + k, none⟩
  | _ => none

def RootOK (w : World) (O : Nat → Prop) (hs : Nat → Option Value) (r : Root) (h : Option Value) (fp : List Nat) : Prop :=
  match r with
  | .free => h = none ∧ fp = []
  | .dead => fp = []
  | .live t lk => ∃ x, h = some x ∧ Ow w O t x fp ∧ ∀ p ∈ lk, ∃ y, cellOf w x p.1 = some y ∧ hs p.2 = some y

def Ob (X : Nat → Prop) (fp : Nat → List Nat) : Nat → Prop := fun b => X b ∨ ∃ r, b ∈ fp r

/-- What a call may write on, and the headers that its caller knows (of roots numbered from a thousand million on). -/
structure Fr where
  own : Nat → Prop
  hd : Nat → Option Value
instance : CoeFun Fr (fun _ => Nat → Prop) := ⟨Fr.own⟩

structure Hist (w0 : World) (O0 : Fr) (w : World) : Prop where
  os : w.os = w0.os
  tape : w.tape = w0.tape
  output : w.output = w0.output
  size : w0.heap.size ≤ w.heap.size
  block : ∀ b, b < w0.heap.size → ¬ O0 b → w.heap[b]? = w0.heap[b]?

/-- What may stand at a root. -/
def T.rooty : T → Bool
  | .arr _ _ | .box _ => true
  | _ => false

/-- The state S describes the frame's slots and the memory. -/
structure Good (X : Nat → Prop) (w0 : World) (O0 : Fr) (n : Nat) (S : St) (a : Act) (w : World) (hs : Nat → Option Value) (fp : Nat → List Nat) : Prop where
  size : a.tmps.size = n
  defers : a.defers = []
  env : ∀ i, Is w (Ob X fp) hs (S.env i) (a.tmps.getD i undef)
  root : ∀ r, RootOK w (Ob X fp) hs (S.roots r) (hs r) (fp r)
  disj : ∀ r r' b, b ∈ fp r → b ∈ fp r' → r = r'
  nodup : ∀ r, (fp r).Nodup
  foreign : ∀ r b, b ∈ fp r → ¬ X b
  xold : ∀ b, X b → b < w0.heap.size
  xout : ∀ b, X b → ¬ O0 b
  mine : ∀ r b, b ∈ fp r → O0 b ∨ w0.heap.size ≤ b
  hist : Hist w0 O0 w
  rooty : ∀ r t lk, S.roots r = .live t lk → t.rooty = true
  hdr : ∀ r h, hs r = some h → h.oneCell' = true
  small : n ≤ 100000
  pin : ∀ r h, 1000000000 ≤ r → hs r = some h → O0.hd r = some h

section
variable {X : Nat → Prop} {w0 : World} {O0 : Fr} {n : Nat} {S : St} {a : Act} {w : World} {hs : Nat → Option Value} {fp : Nat → List Nat}

theorem RootOK.lt {O : Nat → Prop} {r : Root} {h : Option Value} {f : List Nat} (hr : RootOK w O hs r h f) : ∀ b ∈ f, b < w.heap.size := by
  cases r with
  | free => rw [hr.2]; simp
  | dead => have : f = [] := hr; rw [this]; simp
  | live t lk => obtain ⟨x, _, ho, _⟩ := hr; exact ho.lt

theorem Good.lt (g : Good X w0 O0 n S a w hs fp) {r b : Nat} (h : b ∈ fp r) : b < w.heap.size := (g.root r).lt b h

theorem Good.ob_lt (g : Good X w0 O0 n S a w hs fp) {b : Nat} (h : Ob X fp b) : b < w.heap.size := by
  rcases h with h | ⟨r, h⟩
  · exact Nat.lt_of_lt_of_le (g.xold b h) g.hist.size
  · exact g.lt h
end

#print axioms Good.ob_lt
end Go.Ab
