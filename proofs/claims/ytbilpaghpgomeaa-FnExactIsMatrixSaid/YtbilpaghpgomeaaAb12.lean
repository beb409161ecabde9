/- The abstract layer, part 12: conversions, nil checks, function values, parts of slices, min and max. -/
import Derived.Test.YtbilpaghpgomeaaAb11
set_option linter.unusedSimpArgs false
set_option linter.unusedVariables false
namespace Go.Ab

def convertW (P : Program) (src dst : TypeId) (x : A) (K : A → Prop) : Prop :=
  match tyInt P src, tyInt P dst, x with
  | some _, some k, .t (.v (.int _ m)) => K (.v (.int k (k.wrap m)))
  | _, _, _ => False

def nilCheckW (x : A) (S : St) (K : A → Prop) : Prop :=
  match x with
  | .ptr r off => K (.ptr r off)
  | .own r => (match S.roots r with | .live (.box _) _ => K (.own r) | _ => False)
  | .t (.pin l off) => K (.t (.pin l off))
  | .fn f cap => K (.fn f cap)
  | _ => False

/-- A bound of a slice expression: a number, or nothing. -/
def bndA (x : Option A) (d : Nat) : Option Nat :=
  match x with
  | none => some d
  | some (.t (.v (.int _ i))) => if 0 ≤ i then some i.toNat else none
  | _ => none

def mmW (mx : Bool) (x y : A) (K : A → Prop) : Prop :=
  match x, y with
  | .t (.v (.int k a)), .t (.v (.int _ b)) => K (.v (.int k (if mx then max a b else min a b)))
  | _, _ => False

section
variable {P : Program} {n : Nat} {S : St} {K : St → Prop} {X : Nat → Prop} {w0 : World} {O0 : Fr} {a : Act} {w : World} {hs : Nat → Option Value} {fp : Nat → List Nat}

theorem opW_convert {o : Oper} {d : Nat} {src dst : TypeId} {x : Operand} (ho : o.op = .convert src dst x) (hdst : o.dst = some d) (hd : d < n) (k : convertW P src dst (S.ev x) (putK S d K)) : OpW P n o S K := by
  unfold convertW at k
  split at k
  · rename_i k1 k2 kk m h1 h2 hx
    refine OpW.val hdst hd (fun X w0 O0 a w hs fp g => ?_) k
    have h := g.ev x; rw [hx] at h; have h := h.v_inv
    exact ⟨_, by simp [execOp, ho, h, convert, run_underlying (tyInt_spec h1), run_underlying (tyInt_spec h2), Conv.intToInt], .t (.v _)⟩
  · exact k.elim

theorem opW_nilCheck {o : Oper} {d : Nat} {x : Operand} (ho : o.op = .nilCheck x) (hdst : o.dst = some d) (hd : d < n) (k : nilCheckW (S.ev x) S (putK S d K)) : OpW P n o S K := by
  have ptr : ∀ (y : A), (∀ X w0 O0 a w hs fp, Good X w0 O0 n S a w hs fp → ∃ ad, a.eval x = .pointer (some ad)) → S.ev x = y → putK S d K y → OpW P n o S K := by
    intro y hy hxy hK
    refine OpW.val hdst hd (fun X w0 O0 a w hs fp g => ?_) hK
    obtain ⟨ad, had⟩ := hy X w0 O0 a w hs fp g
    exact ⟨.pointer (some ad), by simp [execOp, ho, had], by rw [← hxy, ← had]; exact g.ev x⟩
  unfold nilCheckW at k
  split at k
  · rename_i r off hx
    refine ptr _ (fun X w0 O0 a w hs fp g => ?_) hx k
    have h := g.ev x; rw [hx] at h
    generalize a.eval x = v at h
    cases h with
    | ptrS _ => exact ⟨_, rfl⟩
    | ptrP _ => exact ⟨_, rfl⟩
  · rename_i r hx
    split at k
    · rename_i l lk hr
      refine ptr _ (fun X w0 O0 a w hs fp g => ?_) hx k
      have h1 := g.ev x; rw [hx] at h1; have h1 := h1.own_inv
      obtain ⟨b, cs, e, fps, hb, _⟩ := g.box hr
      rw [hb, Option.some.injEq] at h1
      exact ⟨_, h1.symm⟩
    · exact k.elim
  · rename_i l off hx
    refine ptr _ (fun X w0 O0 a w hs fp g => ?_) hx k
    have h := g.ev x; rw [hx] at h
    generalize a.eval x = v at h
    cases h with
    | t h => cases h; exact ⟨_, rfl⟩
  · rename_i f cap hx
    refine OpW.val hdst hd (fun X w0 O0 a w hs fp g => ?_) k
    have h := g.ev x; rw [hx] at h
    obtain ⟨v, hv⟩ : ∃ v, a.eval x = v := ⟨_, rfl⟩
    rw [hv] at h
    have h' := h
    cases h' with
    | fn hl hr => exact ⟨_, by simp [execOp, ho, hv], h⟩
  · exact k.elim

theorem opW_makeFunc {o : Oper} {d f : Nat} {cap : Array Operand} (ho : o.op = .makeFunc (.func f) #[] cap) (hdst : o.dst = some d) (hd : d < n) (k : putK S d K (.fn f (cap.toList.map S.ev))) : OpW P n o S K := by
  refine OpW.val hdst hd (fun X w0 O0 a w hs fp g => ?_) k
  refine ⟨.func (.func f) #[] (cap.map a.eval), by simp [execOp, ho, Instr.makeFunc], ?_⟩
  have := Is.fn (w := w) (O := Ob X fp) (hs := hs) (f := f) (cap := cap.toList.map S.ev) (vs := cap.toList.map a.eval) (by simp) (fun i h => by
    have h' : i < cap.toList.length := by simpa using h
    simp only [List.getElem_map, List.getD_eq_getElem?_getD, List.getElem?_map, List.getElem?_eq_getElem h', Option.map_some, Option.getD_some]
    exact g.ev _)
  have e : (cap.toList.map a.eval).toArray = cap.map a.eval := by apply Array.ext'; simp
  rw [e] at this
  exact this

theorem opW_mm {o : Oper} {d : Nat} {x y : Operand} {mx : Bool} {ts : Array TypeId} (ho : o.op = .call { callee := .builtin (if mx then .max else .min), args := #[x, y], argTypes := ts }) (hdst : o.dst = some d) (hd : d < n)
    (k : mmW mx (S.ev x) (S.ev y) (putK S d K)) : OpW P n o S K := by
  unfold mmW at k
  split at k
  · rename_i kk a1 k2 b1 hx hy
    refine OpW.val hdst hd (fun X w0 O0 a w hs fp g => ?_) k
    have h1 := g.ev x; rw [hx] at h1; have h1 := h1.v_inv
    have h2 := g.ev y; rw [hy] at h2; have h2 := h2.v_inv
    cases mx
    · refine ⟨_, by simp [execOp, ho, resolve, invoke, builtin, h1, h2, Builtin.min_, Builtin.min2]; rfl, ?_⟩
      have : (if b1 < a1 then b1 else a1) = min a1 b1 := by rw [Int.min_def]; split <;> split <;> omega
      rw [this]; exact .t (.v _)
    · refine ⟨_, by simp [execOp, ho, resolve, invoke, builtin, h1, h2, Builtin.max_, Builtin.max2]; rfl, ?_⟩
      have : (if a1 < b1 then b1 else a1) = max a1 b1 := by rw [Int.max_def]; split <;> split <;> omega
      rw [this]; exact .t (.v _)
  · exact k.elim
end
end Go.Ab
