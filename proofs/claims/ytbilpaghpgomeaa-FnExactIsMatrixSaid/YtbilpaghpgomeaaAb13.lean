/- The abstract layer, part 13: code: regions, sequences, branches, blocks, loops. -/
import Derived.Test.YtbilpaghpgomeaaAb12
set_option linter.unusedSimpArgs false
set_option linter.unusedVariables false
namespace Go.Ab

/-- From S the code comes to an end with Q. -/
def Sem (P : Program) (n : Nat) (c : Code) (Q : Exit → St → Prop) (S : St) : Prop :=
  ∀ X w0 O0 a w hs fp, Good X w0 O0 n S a w hs fp → c.wp P (fun e a' w' => ∃ S' hs' fp', Good X w0 O0 n S' a' w' hs' fp' ∧ Q e S') a w

/-- A list of operations of a region, in order. -/
def OpsSem (P : Program) (n : Nat) (ops : Array Oper) (l : List Nat) (S : St) (K : St → Prop) : Prop :=
  ∀ X w0 O0 a w hs fp, Good X w0 O0 n S a w hs fp → ∀ Q : Exit → Act → World → Prop, (∀ S' a' w' hs' fp', Good X w0 O0 n S' a' w' hs' fp' → K S' → Q .normal a' w') → wpOps P ops Q l a w

section
variable {P : Program} {n : Nat} {S : St}

theorem Sem.mono {c : Code} {Q Q' : Exit → St → Prop} (h : Sem P n c Q S) (hq : ∀ e S', Q e S' → Q' e S') : Sem P n c Q' S :=
  fun X w0 O0 a w hs fp g => wp_mono (h X w0 O0 a w hs fp g) fun e a' w' ⟨S', hs', fp', g', q⟩ => ⟨S', hs', fp', g', hq e S' q⟩
theorem OpsSem.mono {ops : Array Oper} {l : List Nat} {K K' : St → Prop} (h : OpsSem P n ops l S K) (hq : ∀ S', K S' → K' S') : OpsSem P n ops l S K' :=
  fun X w0 O0 a w hs fp g Q hQ => h X w0 O0 a w hs fp g Q fun S' a' w' hs' fp' g' k => hQ S' a' w' hs' fp' g' (hq S' k)

theorem OpsSem.nil {ops : Array Oper} {K : St → Prop} (h : K S) : OpsSem P n ops [] S K := fun X w0 O0 a w hs fp g Q hQ => hQ S a w hs fp g h

theorem Oper.wp_mono' {o : Oper} {a : Act} {w : World} {K K' : Act → World → Prop} {Q : Exit → Act → World → Prop} (h : ∀ a w, K a w → K' a w) (hh : o.wp P a w K Q) : o.wp P a w K' Q :=
  Go.Oper.wp_mono h hh

theorem OpsSem.cons {ops : Array Oper} {i : Nat} {l : List Nat} {o : Oper} {K : St → Prop} (ho : ops[i]? = some o) (hg : o.guard = none) (h : OpW P n o S fun S' => OpsSem P n ops l S' K) : OpsSem P n ops (i :: l) S K := by
  intro X w0 O0 a w hs fp g Q hQ
  simp only [wpOps, ho]
  have hw : Region.wanted o (yielded ops a.tmps) = true := by simp [Region.wanted, hg]
  rw [if_pos hw]
  left
  exact Go.Oper.wp_mono (fun a' w' ⟨S', hs', fp', g', k⟩ => k X w0 O0 a' w' hs' fp' g' Q hQ) (h X w0 O0 a w hs fp g Q)

theorem Good.noval {X : Nat → Prop} {w0 : World} {O0 : Fr} {a : Act} {w : World} {hs : Nat → Option Value} {fp : Nat → List Nat} (g : Good X w0 O0 n S a w hs fp) (d : Option Nat) (hd : ∀ k, d = some k → k < n) :
    Good X w0 O0 n (S.put d (.t .any)) (a.put d Go.undef) w hs fp := by
  cases d with
  | none => exact g
  | some d => exact g.put (hd d rfl) (.t (.any _))

theorem yielded_eq {ops : Array Oper} {tmps : Array Value} {j s : Nat} {o : Oper} {b : Bool} (hj : ops[j]? = some o) (hd : o.dst = some s) (ht : tmps[s]? = some (.bool b)) : yielded ops tmps j = some b := by
  simp [yielded, hj, hd, ht]

theorem OpsSem.guard {ops : Array Oper} {i j s : Nat} {want b : Bool} {l : List Nat} {o oj : Oper} {K : St → Prop} (ho : ops[i]? = some o) (hg : o.guard = some (j, want)) (hj : ops[j]? = some oj) (hs : oj.dst = some s)
    (hb : S.env s = .t (.v (.bool b))) (hd : ∀ k, o.dst = some k → k < n)
    (h : b = want → OpW P n o S fun S' => OpsSem P n ops l S' K) (h' : b ≠ want → OpsSem P n ops l (S.put o.dst (.t .any)) K) : OpsSem P n ops (i :: l) S K := by
  intro X w0 O0 a w hs' fp g Q hQ
  simp only [wpOps, ho]
  have hval := g.env s
  rw [hb] at hval
  have hval := hval.v_inv
  have ht : a.tmps[s]? = some (.bool b) := by
    rw [Array.getD_eq_getD_getElem?] at hval
    cases hx : a.tmps[s]? with
    | none => rw [hx] at hval; simp [undef] at hval
    | some v => rw [hx] at hval; simpa using hval
  have hy := yielded_eq hj hs ht
  by_cases hbw : b = want
  · have hw : Region.wanted o (yielded ops a.tmps) = true := by simp [Region.wanted, hg, hy, hbw]
    rw [if_pos hw]
    left
    exact Go.Oper.wp_mono (fun a' w' ⟨S', hs', fp', g', k⟩ => k X w0 O0 a' w' hs' fp' g' Q hQ) (h hbw X w0 O0 a w hs' fp g Q)
  · have hw : ¬ Region.wanted o (yielded ops a.tmps) = true := by simp [Region.wanted, hg, hy, hbw]
    rw [if_neg hw]
    exact h' hbw X w0 O0 _ w hs' fp (g.noval o.dst hd) Q hQ

/-- The continuation behind the first part of a sequence. -/
def thenQ (P : Program) (n : Nat) (y : Code) (Q : Exit → St → Prop) : Exit → St → Prop
  | .normal, S => Sem P n y Q S
  | e, S => Q e S
def blockQ (id : Nat) (Q : Exit → St → Prop) : Exit → St → Prop
  | .exit id', S => if id' = id then Q .normal S else Q (.exit id') S
  | e, S => Q e S

theorem Sem.skip {Q : Exit → St → Prop} (h : Q .normal S) : Sem P n .skip Q S := fun X w0 O0 a w hs fp g => wp_skip ⟨S, hs, fp, g, h⟩
theorem Sem.ret {Q : Exit → St → Prop} (h : Q .ret S) : Sem P n .ret Q S := fun X w0 O0 a w hs fp g => wp_ret ⟨S, hs, fp, g, h⟩
theorem Sem.exit {Q : Exit → St → Prop} {id : Nat} (h : Q (.exit id) S) : Sem P n (.exit id) Q S := fun X w0 O0 a w hs fp g => wp_exit ⟨S, hs, fp, g, h⟩
theorem Sem.seq {x y : Code} {Q : Exit → St → Prop} (h : Sem P n x (thenQ P n y Q) S) : Sem P n (.seq x y) Q S := fun X w0 O0 a w hs fp g =>
  wp_seq (wp_mono (h X w0 O0 a w hs fp g) fun e a' w' ⟨S', hs', fp', g', q⟩ => by
    cases e with
    | normal => exact q X w0 O0 a' w' hs' fp' g'
    | _ => exact ⟨S', hs', fp', g', q⟩)
theorem Sem.block {id : Nat} {c : Code} {Q : Exit → St → Prop} (h : Sem P n c (blockQ id Q) S) : Sem P n (.block id c) Q S := fun X w0 O0 a w hs fp g =>
  wp_block (wp_mono (h X w0 O0 a w hs fp g) fun e a' w' ⟨S', hs', fp', g', q⟩ => by
    cases e with
    | exit id' =>
      simp only [Exit.inBlock, blockQ] at q ⊢
      split at q
      · rename_i h; rw [if_pos h]; exact ⟨S', hs', fp', g', q⟩
      · rename_i h; rw [if_neg h]; exact ⟨S', hs', fp', g', q⟩
    | _ => exact ⟨S', hs', fp', g', q⟩)
theorem Sem.cond {c : Operand} {x y : Code} {Q : Exit → St → Prop} {b : Bool} (hc : S.ev c = .t (.v (.bool b))) (h1 : b = true → Sem P n x Q S) (h2 : b = false → Sem P n y Q S) : Sem P n (.cond c x y) Q S :=
  fun X w0 O0 a w hs fp g => by
    have hv := g.ev c
    rw [hc] at hv
    have hv := hv.v_inv
    refine wp_cond (t := b) hv ?_
    cases b
    · exact h2 rfl X w0 O0 a w hs fp g
    · exact h1 rfl X w0 O0 a w hs fp g
theorem Sem.region {id : Nat} {ops : Array Oper} {Q : Exit → St → Prop} (h : OpsSem P n ops (List.range ops.size) S (Q .normal)) : Sem P n (.region id ops false) Q S :=
  fun X w0 O0 a w hs fp g => wp_region (h X w0 O0 a w hs fp g _ fun S' a' w' hs' fp' g' k => ⟨S', hs', fp', g', k⟩)

/-- What holds of S holds of S'. -/
def Weak (n : Nat) (S S' : St) : Prop := ∀ X w0 O0 a w hs fp, Good X w0 O0 n S a w hs fp → ∃ hs' fp', Good X w0 O0 n S' a w hs' fp'

theorem Sem.weaken {S' : St} {c : Code} {Q : Exit → St → Prop} (hw : Weak n S S') (h : Sem P n c Q S') : Sem P n c Q S := fun X w0 O0 a w hs fp g => by
  obtain ⟨hs', fp', g'⟩ := hw X w0 O0 a w hs fp g
  exact h X w0 O0 a w hs' fp' g'

def loopQ {σ : Type} (n : Nat) (mk : σ → St) (Inv : σ → Prop) (μ : σ → Nat) (m : Nat) (Q : Exit → St → Prop) : Exit → St → Prop
  | .normal, S => ∃ s', Weak n S (mk s') ∧ Inv s' ∧ μ s' < m
  | e, S => Q e S

/-- A loop, by an invariant over loop data. -/
theorem Sem.loop {σ : Type} {c : Code} {Q : Exit → St → Prop} (mk : σ → St) (Inv : σ → Prop) (μ : σ → Nat) (s0 : σ) (h0 : Weak n S (mk s0)) (hi : Inv s0)
    (round : ∀ s, Inv s → Sem P n c (loopQ n mk Inv μ (μ s) Q) (mk s)) : Sem P n (.loop c) Q S := by
  refine Sem.weaken h0 ?_
  intro X w0 O0 a w hs fp g b k cs
  have key : ∀ m s a w hs fp, μ s = m → Inv s → Good X w0 O0 n (mk s) a w hs fp →
      ∃ e a' w', (∃ S' hs' fp', Good X w0 O0 n S' a' w' hs' fp' ∧ Q e S') ∧ Arrives P (lone (b.at a (.code c :: .inLoop c :: k)) cs w) b k cs e a' w' := by
    intro m
    induction m using Nat.strongRecOn with
    | _ m ih =>
      intro s a w hs fp hm hi g
      obtain ⟨e, a₁, w₁, ⟨S1, hs1, fp1, g1, q⟩, harr⟩ := round s hi X w0 O0 a w hs fp g b (.inLoop c :: k) cs
      cases e with
      | normal =>
        obtain ⟨s', hg, hi', hlt⟩ := q
        obtain ⟨hs2, fp2, g2⟩ := hg X w0 O0 a₁ w₁ hs1 fp1 g1
        obtain ⟨e₂, a₂, w₂, hq₂, harr₂⟩ := ih (μ s') (hm ▸ hlt) s' a₁ w₁ hs2 fp2 rfl hi' g2
        exact ⟨e₂, a₂, w₂, hq₂, .of_steps (Steps.trans harr (.one step_inLoop)) harr₂⟩
      | exit id => exact ⟨_, a₁, w₁, ⟨S1, hs1, fp1, g1, q⟩, .pass (x := .inLoop c) rfl (fun _ _ => .inl (by simp)) harr⟩
      | goto l => exact ⟨_, a₁, w₁, ⟨S1, hs1, fp1, g1, q⟩, .pass (x := .inLoop c) rfl (fun _ _ => .inl (by simp)) harr⟩
      | ret => exact ⟨_, a₁, w₁, ⟨S1, hs1, fp1, g1, q⟩, .pass (x := .inLoop c) rfl (fun _ _ => .inl (by simp)) harr⟩
      | panic ch => exact ⟨_, a₁, w₁, ⟨S1, hs1, fp1, g1, q⟩, .pass (x := .inLoop c) rfl (fun _ _ => .inl (by simp)) harr⟩
      | outgrown => exact ⟨_, a₁, w₁, ⟨S1, hs1, fp1, g1, q⟩, .pass (x := .inLoop c) rfl (fun _ _ => .inl (by simp)) harr⟩
  obtain ⟨e, a', w', hq, harr⟩ := key _ s0 a w hs fp rfl hi g
  exact ⟨e, a', w', hq, .of_steps (.one step_loop) harr⟩
end
end Go.Ab
