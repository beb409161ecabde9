/- The abstract layer, part 2: what one operation does to an abstract state; operations that compute values. -/
import Derived.Test.YtbilpaghpgomeaaAb1
set_option linter.unusedSimpArgs false
set_option linter.unusedVariables false
namespace Go.Ab


def OpW (P : Program) (n : Nat) (o : Oper) (S : St) (K : St → Prop) : Prop :=
  ∀ X w0 O0 a w hs fp, Good X w0 O0 n S a w hs fp → ∀ Q, o.wp P a w (fun a' w' => ∃ S' hs' fp', Good X w0 O0 n S' a' w' hs' fp' ∧ K S') Q

/-- The value that an operand has in S. -/
def St.ev (S : St) : Operand → A
  | .tmp t => S.env t
  | .const v => .t (.v v)
  | .global _ => .t .any
  | .func f => .fn f []

section
variable {P : Program} {X : Nat → Prop} {w0 : World} {O0 : Fr} {n : Nat} {S : St} {a : Act} {w : World} {hs : Nat → Option Value} {fp : Nat → List Nat}

theorem Good.ev (g : Good X w0 O0 n S a w hs fp) (x : Operand) : Is w (Ob X fp) hs (S.ev x) (a.eval x) := by
  cases x with
  | tmp t => exact g.env t
  | const v => exact .t (.v _)
  | global g => exact .t (.any _)
  | func f => exact .fn (vs := []) rfl (fun i h => absurd h (by simp))

theorem Good.put (g : Good X w0 O0 n S a w hs fp) {d : Nat} (hd : d < n) {x : A} {v : Value} (h : Is w (Ob X fp) hs x v) :
    Good X w0 O0 n (S.put (some d) x) (a.put (some d) v) w hs fp := by
  refine ⟨by simp [Act.put, g.size], g.defers, fun i => ?_, g.root, g.disj, g.nodup, g.foreign, g.xold, g.xout, g.mine, g.hist, g.rooty, g.hdr, g.small, g.pin⟩
  by_cases hi : i = d
  · subst hi
    have : (a.put (some i) v).tmps.getD i undef = v := by simp [Act.put, Array.getD_eq_getD_getElem?, g.size, hd]
    rw [this]; simp only [St.put, upd_self]; exact h
  · have : (a.put (some d) v).tmps.getD i undef = a.tmps.getD i undef := by
      simp [Act.put, Array.getD_eq_getD_getElem?, Array.getElem?_setIfInBounds, Ne.symm hi]
    rw [this]; simp only [St.put, upd_other _ _ _ _ hi]; exact g.env i

/-- An operation that only gives a value. -/
theorem OpW.val {o : Oper} {K : St → Prop} {d : Nat} {x : A} (hdst : o.dst = some d) (hd : d < n)
    (h : ∀ X w0 O0 a w hs fp, Good X w0 O0 n S a w hs fp → ∃ v, (execOp a.eval o).run P w = .ok (.value v) w ∧ Is w (Ob X fp) hs x v)
    (k : K (S.put (some d) x)) : OpW P n o S K := by
  intro X w0 O0 a w hs fp g Q
  obtain ⟨v, hr, hi⟩ := h X w0 O0 a w hs fp g
  unfold Oper.wp
  rw [hr, Oper.upon_value, hdst]
  exact ⟨_, hs, fp, g.put hd hi, k⟩
end

-- inversion of what a slot reads as
section
variable {w : World} {O : Nat → Prop} {hs : Nat → Option Value}
theorem Is.v_inv {x v : Value} (h : Is w O hs (.t (.v x)) v) : v = x := by cases h with | t h => cases h; rfl
theorem Is.tup_inv {l : List A} {v : Value} (h : Is w O hs (.tup l) v) : ∃ vs : List Value, v = .tuple vs.toArray ∧ vs.length = l.length ∧ ∀ i (h : i < l.length), Is w O hs l[i] (vs.getD i undef) := by
  cases h with | tup hl hr => exact ⟨_, rfl, hl, hr⟩
theorem Is.agg_inv {l : List A} {v : Value} (h : Is w O hs (.agg l) v) : ∃ vs : List Value, v = .agg vs.toArray ∧ vs.length = l.length ∧ ∀ i (h : i < l.length), Is w O hs l[i] (vs.getD i undef) := by
  cases h with | agg hl hr => exact ⟨_, rfl, hl, hr⟩
theorem Is.ttup_inv {l : List T} {v : Value} (h : Is w O hs (.t (.tup l)) v) : ∃ vs : List Value, v = .tuple vs.toArray ∧ vs.length = l.length ∧ ∀ i (h : i < l.length), Is w O hs (.t l[i]) (vs.getD i undef) := by
  cases h with | t h => cases h with | tup _ _ hl hr => exact ⟨_, rfl, hl, fun i h => .t (hr i h)⟩
theorem Is.tagg_inv {l : List T} {v : Value} (h : Is w O hs (.t (.agg l)) v) : ∃ vs : List Value, v = .agg vs.toArray ∧ vs.length = l.length ∧ ∀ i (h : i < l.length), Is w O hs (.t l[i]) (vs.getD i undef) := by
  cases h with | t h => cases h with | agg _ _ hl hr => exact ⟨_, rfl, hl, fun i h => .t (hr i h)⟩
theorem Is.sh_inv {s : Nat} {l : List T} {v : Value} (h : Is w O hs (.t (.sh s l)) v) :
    (v = .slice none 0 0 ∧ l = []) ∨ (∃ ad cap, v = .slice (some ad) 0 cap ∧ l = []) ∨ ∃ b off len cap cs e fz, v = .slice (some ⟨b, off, none⟩) len cap ∧ ¬ O b ∧ w.heap[b]? = some (.cells cs e fz) ∧ off + l.length ≤ cs.size ∧ l.length = len * s ∧ len ≤ cap ∧
      ∀ i (h : i < l.length), Rd w O l[i] (cs.getD (off + i) undef) := by
  cases h with
  | t h =>
    cases h with
    | shNil => exact .inl ⟨rfl, rfl⟩
    | shZ _ ad cap => exact .inr (.inl ⟨ad, cap, rfl, rfl⟩)
    | sh _ _ b off len cap cs e fz h1 h2 h3 h4 h5 h6 => exact .inr (.inr ⟨b, off, len, cap, cs, e, fz, rfl, h1, h2, h3, h4, h5, h6⟩)
end

/-- Ints: what an operator gives. -/
def binI (op : BinOp) (k : IntKind) (a b : Int) (K : A → Prop) : Prop :=
  match op with
  | .add => K (.v (.int k (k.wrap (a + b))))
  | .sub => K (.v (.int k (k.wrap (a - b))))
  | .mul => K (.v (.int k (k.wrap (a * b))))
  | .quo => b ≠ 0 ∧ K (.v (.int k (k.wrap (a.tdiv b))))
  | .rem => b ≠ 0 ∧ K (.v (.int k (a.tmod b)))
  | .eql => K (.v (.bool (a == b)))
  | .neq => K (.v (.bool (a != b)))
  | .lss => K (.v (.bool (decide (a < b))))
  | .leq => K (.v (.bool (decide (a ≤ b))))
  | .gtr => K (.v (.bool (decide (a > b))))
  | .geq => K (.v (.bool (decide (a ≥ b))))
  | _ => False

theorem run_binI {P : Program} {op : BinOp} {k : IntKind} {a b : Int} {K : A → Prop} (h : binI op k a b K) (t : TypeId) :
    ∃ v, (∀ w, (binOp op t (.int k a) (.int k b)).run P w = .ok v w) ∧ K (.v v) := by
  cases op <;> simp only [binI] at h <;> first
    | (exact h.elim)
    | (exact ⟨_, fun w => by simp [binOp, Op.intArith, Op.intCmp], h⟩)
    | (exact ⟨_, fun w => by simp [binOp, Op.intDiv, h.1], h.2⟩)
theorem run_eqGuard {P : Program} (op : BinOp) (t : TypeId) (x y : Operand) (k : IntKind) (a b : Int) (w : World) : (eqGuard op t x y (.int k a) (.int k b)).run P w = .ok () w := by
  unfold eqGuard
  cases op <;> rfl

/-- An operator on two values. -/
def binW (op : BinOp) (x y : A) (K : A → Prop) : Prop :=
  match x, y with
  | .t (.v (.int k a)), .t (.v (.int k' b)) => k' = k ∧ binI op k a b K
  | _, _ => False

/-- The continuation 'lay the value into slot d and go on'. -/
def putK (S : St) (d : Nat) (K : St → Prop) : A → Prop := fun a => K (S.put (some d) a)
theorem putK_apply (S : St) (d : Nat) (K : St → Prop) (a : A) : putK S d K a = K { S with env := upd S.env d a } := rfl

section
variable {P : Program} {n : Nat} {S : St} {K : St → Prop}
theorem opW_move {o : Oper} {d : Nat} {x : Operand} (ho : o.op = .move x ∨ o.op = .assign x) (hdst : o.dst = some d) (hd : d < n) (k : putK S d K (S.ev x)) : OpW P n o S K :=
  OpW.val hdst hd (fun X w0 O0 a w hs fp g => ⟨a.eval x, by unfold execOp; rcases ho with ho | ho <;> simp [ho], g.ev x⟩) k

theorem opW_pick {o : Oper} {d : Nat} {c x y : Operand} {b : Bool} (ho : o.op = .pick c x y) (hdst : o.dst = some d) (hd : d < n) (hc : S.ev c = .t (.v (.bool b)))
    (k : putK S d K (if b then S.ev x else S.ev y)) : OpW P n o S K :=
  OpW.val hdst hd (fun X w0 O0 a w hs fp g => by
    have h := g.ev c
    rw [hc] at h
    have h' := h.v_inv
    refine ⟨if b then a.eval x else a.eval y, by simp [execOp, ho, h', asBool], ?_⟩
    cases b
    · exact g.ev y
    · exact g.ev x) k

theorem opW_bin {o : Oper} {d : Nat} {op : BinOp} {t u : TypeId} {x y : Operand} (ho : o.op = .binOp op t x y u) (hdst : o.dst = some d) (hd : d < n)
    (k : binW op (S.ev x) (S.ev y) (putK S d K)) : OpW P n o S K := by
  unfold binW at k
  split at k
  · rename_i kk a1 kk' b1 hx hy
    obtain ⟨rfl, hk⟩ := k
    obtain ⟨v, hv, hK⟩ := run_binI (P := P) hk t
    refine OpW.val (x := .v v) hdst hd (fun X w0 O0 a w hs fp g => ?_) hK
    have h1 := g.ev x; rw [hx] at h1; have h1' := h1.v_inv
    have h2 := g.ev y; rw [hy] at h2; have h2' := h2.v_inv
    exact ⟨v, by simp [execOp, ho, h1', h2', run_eqGuard, hv], .t (.v v)⟩
  · exact k.elim

def unW (op : UnOp) (x : A) (K : A → Prop) : Prop :=
  match op, x with
  | .neg, .t (.v (.int k a)) => K (.v (.int k (k.wrap (0 - a))))
  | .not, .t (.v (.bool b)) => K (.v (.bool (!b)))
  | _, _ => False
theorem opW_un {o : Oper} {d : Nat} {op : UnOp} {t : TypeId} {x : Operand} (ho : o.op = .unOp op t x) (hdst : o.dst = some d) (hd : d < n)
    (k : unW op (S.ev x) (putK S d K)) : OpW P n o S K := by
  unfold unW at k
  split at k
  · rename_i kk a1 hx
    refine OpW.val hdst hd (fun X w0 O0 a w hs fp g => ?_) k
    have h1 := g.ev x; rw [hx] at h1; have h1' := h1.v_inv
    exact ⟨_, by simp [execOp, ho, h1', Op.unary, Op.intArith], .t (.v _)⟩
  · rename_i b1 hx
    refine OpW.val hdst hd (fun X w0 O0 a w hs fp g => ?_) k
    have h1 := g.ev x; rw [hx] at h1; have h1' := h1.v_inv
    exact ⟨_, by simp [execOp, ho, h1', Op.unary], .t (.v _)⟩
  · exact k.elim

def extractW (x : A) (i : Nat) (K : A → Prop) : Prop :=
  match x with
  | .tup l => ∃ a, l[i]? = some a ∧ K a
  | .t (.tup l) => ∃ a, l[i]? = some a ∧ K (.t a)
  | _ => False
theorem opW_extract {o : Oper} {d i : Nat} {x : Operand} (ho : o.op = .extract x i) (hdst : o.dst = some d) (hd : d < n)
    (k : extractW (S.ev x) i (putK S d K)) : OpW P n o S K := by
  unfold extractW at k
  split at k
  · rename_i l hx
    obtain ⟨b, hb, hK⟩ := k
    refine OpW.val (x := b) hdst hd (fun X w0 O0 a w hs fp g => ?_) hK
    have h1 := g.ev x; rw [hx] at h1
    obtain ⟨vs, hv, hl, hr⟩ := h1.tup_inv
    obtain ⟨hi, rfl⟩ := List.getElem?_eq_some_iff.1 hb
    have hv' : vs[i]? = some vs[i] := List.getElem?_eq_getElem (by omega)
    refine ⟨vs[i], by simp [execOp, ho, hv, Instr.extract, hv'], ?_⟩
    have := hr i hi
    rwa [List.getD_eq_getElem?_getD, hv'] at this
  · rename_i l hx
    obtain ⟨b, hb, hK⟩ := k
    refine OpW.val (x := .t b) hdst hd (fun X w0 O0 a w hs fp g => ?_) hK
    have h1 := g.ev x; rw [hx] at h1
    obtain ⟨vs, hv, hl, hr⟩ := h1.ttup_inv
    obtain ⟨hi, rfl⟩ := List.getElem?_eq_some_iff.1 hb
    have hv' : vs[i]? = some vs[i] := List.getElem?_eq_getElem (by omega)
    refine ⟨vs[i], by simp [execOp, ho, hv, Instr.extract, hv'], ?_⟩
    have := hr i hi
    rwa [List.getD_eq_getElem?_getD, hv'] at this
  · exact k.elim
end
end Go.Ab
