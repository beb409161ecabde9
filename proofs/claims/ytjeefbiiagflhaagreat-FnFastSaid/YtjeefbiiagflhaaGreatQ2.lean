/- The abstract layer, part 22: operations that only give a value: which slots they look at, and that their value is determined. -/
import Derived.RangeFuncNested
import Derived.Test.YtjeefbiiagflhaaGreatQ1
set_option linter.unusedSimpArgs false
set_option linter.unusedVariables false
set_option maxRecDepth 20000
namespace Go.Ab

def CO.reads : CO -> List Operand
 | .move _ x | .un _ _ x | .extract _ x _ | .lenS _ x | .lenT _ x | .fld _ _ x | .load1 _ x | .loadN _ _ x | .box _ x | .boxL _ x | .conv _ _ x | .nilc _ x | .fldV _ _ x => [x]
 | .pick _ c x y => [c, x, y]
 | .bin _ _ x y | .beq _ _ x y | .idx _ _ x y | .idxA _ _ _ x y | .store _ x y | .make _ _ _ x y | .app _ _ _ x y | .mm _ _ x y | .idxV _ _ x y | .copyS _ x y => [x, y]
 | .alloc _ _ => []
 | .build _ _ _ ps | .bslice _ _ _ ps => ps.map (·.2)
 | .mkf _ _ caps => caps
 | .call _ f as => f :: as
 | .bad _ => []
 | .beqS _ _ _ x y => [x, y]
 | .isNil _ _ x => [x]
 | .slc _ _ x lo hi => x :: (lo.toList ++ hi.toList)

def q0id (x : A) (S : St) (K : A -> Prop) : Prop :=
 match x with
 | .t (.pin l off) => off < l.length /\ ∀ c, l[off]? = some c -> K (.t c)
 | .ptr r off => (match (S.roots r).cells with
   | some (l, lk) => off < l.length /\ (match lk.lookup off with
     | some q => K (.own q)
     | none => ∀ c, l[off]? = some c -> c.flat = true /\ K (.t c))
   | none => False)
 | .own r => (match S.roots r with
   | .live (.box l) lk => 0 < l.length /\ (match lk.lookup 0 with
     | some q => K (.own q)
     | none => ∀ c, l[0]? = some c -> c.flat = true /\ K (.t c))
   | _ => False)
 | _ => False
def q05w (l : List T) (lk : List (Nat × Nat)) (off z : Nat) (K : A -> Prop) : Prop :=
 if (((l.drop off).take z).all T.flat && noLk off z lk) = true then K (.t (.agg ((l.drop off).take z)))
 else q0pd lk off ((l.drop off).take z) = true /\ K (.agg (q0p8 lk off ((l.drop off).take z)))
def q0ip (z : Nat) (x : A) (S : St) (K : A -> Prop) : Prop :=
 match x with
 | .t (.pin l off) => off + z <= l.length /\ K (.t (.agg ((l.drop off).take z)))
 | .ptr r off => (match (S.roots r).cells with
   | some (l, lk) => off + z <= l.length /\ q05w l lk off z K
   | none => False)
 | .own r => (match S.roots r with
   | .live (.box l) lk => z <= l.length /\ q05w l lk 0 z K
   | _ => False)
 | _ => False
theorem q05z {l : List T} {lk : List (Nat × Nat)} {off z : Nat} {K : A -> Prop} (h : q05w l lk off z K) : ∃ x, K x /\ ∀ K' : A -> Prop, K' x -> q05w l lk off z K' := by
 unfold q05w at h ⊢
 split at h
 ·rename_i hc; exact ⟨_, h, fun K' hK => by rw [if_pos hc]; exact hK⟩
 ·rename_i hc; exact ⟨_, h.2, fun K' hK => by rw [if_neg hc]; exact ⟨h.1, hK⟩⟩
theorem q05x {l : List T} {lk : List (Nat × Nat)} {r off z d : Nat} {S : St} {K : St -> Prop} (h : q05w l lk off z fun a => K { S with env := upd S.env d a }) : q05u l lk r off z d K S := by
 unfold q05w at h
 unfold q05u
 split at h
 ·rename_i hc; rw [if_pos hc]; exact h
 ·rename_i hc; rw [if_neg hc, if_pos h.1]; exact h.2

def q004 (P : Program) (n : Nat) (f : Operand) (as : List Operand) (ρ : Operand -> A) (R : Nat -> Root) (K : A -> Prop) : Prop :=
 ∃ x, K x /\ ∀ (d : Nat) (e : Nat -> A) (R' : Nat -> Root) (Kc : St -> Prop), (∀ r, R r = .free ∨ R' r = R r) -> (∀ y, y ∈ f :: as -> St.ev ⟨e, R'⟩ y = ρ y) -> Kc ⟨upd e d x, R'⟩ -> q006 P n (some d) f as Kc ⟨e, R'⟩

def coV (P : Program) (n : Nat) : CO -> (Operand -> A) -> St -> (A -> Prop) -> Prop
 | .move _ x, ρ, S, K => K (ρ x)
 | .pick _ c x y, ρ, S, K => q0o6 (ρ c) (ρ x) (ρ y) K
 | .bin _ op x y, ρ, S, K => binW op (ρ x) (ρ y) K
 | .beq _ ne x y, ρ, S, K => beqC ne (ρ x) (ρ y) K
 | .un _ op x, ρ, S, K => unW op (ρ x) K
 | .extract _ x i, ρ, S, K => q08w (ρ x) i K
 | .lenS _ x, ρ, S, K => lenC (ρ x) S K
 | .lenT _ x, ρ, S, K => q0i2 (ρ x) K
 | .idx _ z x y, ρ, S, K => idxC z (ρ x) (ρ y) S K
 | .fld _ off x, ρ, S, K => fldC off (ρ x) S K
 | .load1 _ x, ρ, S, K => q0id (ρ x) S K
 | .loadN _ z x, ρ, S, K => q0ip z (ρ x) S K
 | .build _ zs pl parts, ρ, S, K => q02w zs pl (parts.map fun p => (p.1, ρ p.2)) K
 | .conv _ k x, ρ, S, K => q07p k (ρ x) K
 | .nilc _ x, ρ, S, K => q0lp (ρ x) S K
 | .mkf _ f caps, ρ, S, K => K (.fn f (caps.map ρ))
 | .mm _ mx x y, ρ, S, K => mmW mx (ρ x) (ρ y) K
 | .call (some _) f as, ρ, S, K => q004 P n f as ρ S.roots K
 | .beqS _ ne m x y, ρ, S, K => q01s ne m (ρ x) (ρ y) K
 | .slc _ z x lo hi, ρ, S, K => slcC z (ρ x) (lo.map ρ) (hi.map ρ) S K
 | .idxA _ len z x y, ρ, S, K => arrC len z (ρ x) (ρ y) S K
 | _, _, _, _ => False

section
variable {P : Program} {n : Nat} {S : St}

theorem q08u {α : Type} {l : List α} {i : Nat} (h : i < l.length) : ∃ c, l[i]? = some c := ⟨_, qB h⟩

theorem q0ih {x : A} {K : A -> Prop} (h : q0id x S K) : ∃ v, K v /\ ∀ K' : A -> Prop, K' v -> q0id x S K' := by
 unfold q0id at h ⊢
 split at h
 ·obtain ⟨c, hc⟩ := q08u h.1
  exact ⟨_, h.2 c hc, fun K' hK => ⟨h.1, fun c' hc' => by rw [hc] at hc'; cases hc'; exact hK⟩⟩
 ·split at h
  ·split at h
   ·exact ⟨_, h.2, fun K' hK => ⟨h.1, hK⟩⟩
   ·obtain ⟨c, hc⟩ := q08u h.1
    exact ⟨_, (h.2 c hc).2, fun K' hK => ⟨h.1, fun c' hc' => by rw [hc] at hc'; cases hc'; exact ⟨(h.2 c hc).1, hK⟩⟩⟩
  ·exact h.elim
 ·split at h
  ·split at h
   ·exact ⟨_, h.2, fun K' hK => ⟨h.1, hK⟩⟩
   ·obtain ⟨c, hc⟩ := q08u h.1
    exact ⟨_, (h.2 c hc).2, fun K' hK => ⟨h.1, fun c' hc' => by rw [hc] at hc'; cases hc'; exact ⟨(h.2 c hc).1, hK⟩⟩⟩
  ·exact h.elim
 ·exact h.elim

theorem q024 {op : BinOp} {k : IntKind} {a b : Int} {K : A -> Prop} (h : binI op k a b K) : ∃ v, K v /\ ∀ K' : A -> Prop, K' v -> binI op k a b K' := by
 cases op <;> simp only [binI] at h ⊢ <;> first
  | exact h.elim
  | exact ⟨_, h, fun _ h => h⟩
  | exact ⟨_, h.2, fun _ h' => ⟨h.1, h'⟩⟩

theorem q07f {c : CO} {ρ : Operand -> A} {K : A -> Prop} (h : coV P n c ρ S K) : ∃ v, K v /\ ∀ K' : A -> Prop, K' v -> coV P n c ρ S K' := by
 unfold coV at h
 split at h
 ·exact ⟨_, h, fun _ h => h⟩
 ·unfold q0o6 at h
  unfold coV q0o6
  split at h
  ·rename_i b hb
   cases b
   ·exact ⟨_, h.2 rfl, fun K' hK => by simp only [hb]; exact ⟨fun e => (by cases e), fun _ => hK⟩⟩
   ·exact ⟨_, h.1 rfl, fun K' hK => by simp only [hb]; exact ⟨fun _ => hK, fun e => (by cases e)⟩⟩
  ·exact h.elim
 ·unfold binW at h
  unfold coV binW
  split at h
  ·rename_i hx hy
   split at h
   ·exact ⟨_, h.2, fun K' hK => by simp only [hx, hy]; exact ⟨h.1, hK⟩⟩
   ·exact ⟨_, h.2, fun K' hK => by simp only [hx, hy]; exact ⟨h.1, hK⟩⟩
   ·rename_i n1 n2
    obtain ⟨v, h1, h2⟩ := q024 h.2
    refine ⟨v, h1, fun K' hK => ?_⟩
    simp only [hx, hy]
    exact ⟨h.1, h2 K' hK⟩
  ·exact h.elim
 ·unfold beqC at h
  unfold coV beqC
  split at h
  ·rename_i hx hy; exact ⟨_, h, fun K' hK => by simp only [hx, hy]; exact hK⟩
  ·exact h.elim
 ·unfold unW at h
  unfold coV unW
  split at h
  ·rename_i hx; exact ⟨_, h, fun K' hK => by simp only [hx]; exact hK⟩
  ·rename_i hx; exact ⟨_, h, fun K' hK => by simp only [hx]; exact hK⟩
  ·exact h.elim
 ·unfold q08w at h
  unfold coV q08w
  split at h
  ·rename_i hx; obtain ⟨a, ha, hK⟩ := h; exact ⟨_, hK, fun K' hK => by simp only [hx]; exact ⟨a, ha, hK⟩⟩
  ·rename_i hx; obtain ⟨a, ha, hK⟩ := h; exact ⟨_, hK, fun K' hK => by simp only [hx]; exact ⟨a, ha, hK⟩⟩
  ·exact h.elim
 ·unfold lenC at h
  unfold coV lenC
  split at h
  ·rename_i hx; exact ⟨_, h, fun K' hK => by simp only [hx]; exact hK⟩
  ·rename_i hx; exact ⟨_, h.2, fun K' hK => by simp only [hx]; exact ⟨h.1, hK⟩⟩
  ·rename_i hx
   split at h
   ·rename_i hr; exact ⟨_, h.2, fun K' hK => by simp only [hx, hr]; exact ⟨h.1, hK⟩⟩
   ·exact h.elim
  ·rename_i hx; exact ⟨_, h, fun K' hK => by simp only [hx]; exact hK⟩
  ·exact h.elim
 ·unfold q0i2 at h
  unfold coV q0i2
  split at h
  ·rename_i hx; exact ⟨_, h, fun K' hK => by simp only [hx]; exact hK⟩
  ·exact h.elim
 ·unfold idxC at h
  unfold coV idxC
  split at h
  ·rename_i hy
   obtain ⟨h0, h⟩ := h
   split at h
   ·rename_i hx; exact ⟨_, h.2.2, fun K' hK => by simp only [hx, hy]; exact ⟨h0, h.1, h.2.1, hK⟩⟩
   ·rename_i hx
    split at h
    ·rename_i hr; exact ⟨_, h.2.2, fun K' hK => by simp only [hx, hy, hr]; exact ⟨h0, h.1, h.2.1, hK⟩⟩
    ·exact h.elim
   ·rename_i hx; exact ⟨_, h.2, fun K' hK => by simp only [hx, hy]; exact ⟨h0, h.1, hK⟩⟩
   ·exact h.elim
  ·exact h.elim
 ·unfold fldC at h
  unfold coV fldC
  split at h
  ·rename_i hx; exact ⟨_, h, fun K' hK => by simp only [hx]; exact hK⟩
  ·rename_i hx; exact ⟨_, h, fun K' hK => by simp only [hx]; exact hK⟩
  ·rename_i hx
   split at h
   ·rename_i hr; exact ⟨_, h, fun K' hK => by simp only [hx, hr]; exact hK⟩
   ·exact h.elim
  ·exact h.elim
 ·exact q0ih h
 ·unfold q0ip at h
  unfold coV q0ip
  split at h
  ·rename_i hx; exact ⟨_, h.2, fun K' hK => by simp only [hx]; exact ⟨h.1, hK⟩⟩
  ·rename_i hx
   split at h
   ·rename_i hr
    obtain ⟨x, h1, h2⟩ := q05z h.2
    exact ⟨x, h1, fun K' hK => by simp only [hx, hr]; exact ⟨h.1, h2 K' hK⟩⟩
   ·exact h.elim
  ·rename_i hx
   split at h
   ·rename_i hr
    obtain ⟨x, h1, h2⟩ := q05z h.2
    exact ⟨x, h1, fun K' hK => by simp only [hx, hr]; exact ⟨h.1, h2 K' hK⟩⟩
   ·exact h.elim
  ·exact h.elim
 ·unfold q02w at h
  unfold coV q02w
  split at h
  ·rename_i hx; exact ⟨_, h, fun K' hK => by simp only [hx]; exact hK⟩
  ·exact h.elim
 ·unfold q07p at h
  unfold coV q07p
  split at h
  ·rename_i hx; exact ⟨_, h, fun K' hK => by simp only [hx]; exact hK⟩
  ·exact h.elim
 ·unfold q0lp at h
  unfold coV q0lp
  split at h
  ·rename_i hx; exact ⟨_, h, fun K' hK => by simp only [hx]; exact hK⟩
  ·rename_i hx
   split at h
   ·rename_i hr; exact ⟨_, h, fun K' hK => by simp only [hx, hr]; exact hK⟩
   ·exact h.elim
  ·rename_i hx; exact ⟨_, h, fun K' hK => by simp only [hx]; exact hK⟩
  ·rename_i hx; exact ⟨_, h, fun K' hK => by simp only [hx]; exact hK⟩
  ·exact h.elim
 ·exact ⟨_, h, fun _ h => h⟩
 ·unfold mmW at h
  unfold coV mmW
  split at h
  ·rename_i hx hy; exact ⟨_, h, fun K' hK => by simp only [hx, hy]; exact hK⟩
  ·exact h.elim
 ·obtain ⟨x, hK, hall⟩ := h
  exact ⟨x, hK, fun K' hK' => ⟨x, hK', hall⟩⟩
 ·unfold q01s at h
  unfold coV q01s
  split at h
  ·rename_i hx hy; exact ⟨_, h.2.2, fun K' hK => by simp only [hx, hy]; exact ⟨h.1, h.2.1, hK⟩⟩
  ·exact h.elim
 ·unfold slcC at h
  unfold coV slcC
  split at h
  ·rename_i hx; exact ⟨_, h.2.2, fun K' hK => by simp only [hx]; exact ⟨h.1, h.2.1, hK⟩⟩
  ·rename_i hx
   split at h
   ·rename_i h1 h2; exact ⟨_, h.2.2.2, fun K' hK => by simp only [hx, h1, h2]; exact ⟨h.1, h.2.1, h.2.2.1, hK⟩⟩
   ·exact h.elim
  ·rename_i hx
   split at h
   ·rename_i hr
    split at h
    ·rename_i h1 h2; exact ⟨_, h.2.2.2, fun K' hK => by simp only [hx, hr, h1, h2]; exact ⟨h.1, h.2.1, h.2.2.1, hK⟩⟩
    ·exact h.elim
   ·exact h.elim
  ·exact h.elim
 ·unfold arrC at h
  unfold coV arrC
  split at h
  ·rename_i hy
   obtain ⟨h0, h1, h⟩ := h
   split at h
   ·rename_i hx; exact ⟨_, h, fun K' hK => by simp only [hx, hy]; exact ⟨h0, h1, hK⟩⟩
   ·rename_i hx; exact ⟨_, h, fun K' hK => by simp only [hx, hy]; exact ⟨h0, h1, hK⟩⟩
   ·rename_i hx
    split at h
    ·rename_i hr; exact ⟨_, h, fun K' hK => by simp only [hx, hy, hr]; exact ⟨h0, h1, hK⟩⟩
    ·exact h.elim
   ·exact h.elim
  ·exact h.elim
 ·exact h.elim

theorem q07e {c : CO} {ρ ρ' : Operand -> A} {K : A -> Prop} (hρ : ∀ x ∈ c.reads, ρ' x = ρ x) (h : coV P n c ρ S K) : coV P n c ρ' S K := by
 cases c <;> simp only [CO.reads, qO, List.not_mem_nil, or_false, forall_eq_or_imp, forall_eq] at hρ <;> simp only [coV] at h ⊢
 case build zs pl parts =>
  have : (parts.map fun p => (p.1, ρ' p.2)) = parts.map fun p => (p.1, ρ p.2) := rW fun p hp => by rw [hρ _ (qN.2 ⟨p, hp, rfl⟩)]
  rw [this]; exact h
 case mkf d f caps =>
  have : caps.map ρ' = caps.map ρ := rW fun p hp => hρ p hp
  rw [this]; exact h
 case call d f as =>
  cases d with
  | none => exact h
  | some d =>
    obtain ⟨x, hK, hall⟩ := h
    refine ⟨x, hK, fun d e R' Kc h1 h2 h3 => hall d e R' Kc h1 (fun y hy => (h2 y hy).trans ?_) h3⟩
    rcases qO.1 hy with rfl | hy
    ·exact hρ.1
    ·exact hρ.2 y hy
 case slc d z x lo hi =>
  have h1 : lo.map ρ' = lo.map ρ := by
   cases lo with
   | none => rfl
   | some y => simp [hρ.2 y (by simp)]
  have h2 : hi.map ρ' = hi.map ρ := by
   cases hi with
   | none => rfl
   | some y => simp [hρ.2 y (by simp)]
  rw [hρ.1, h1, h2]; exact h
 all_goals first
  | exact h
  | (rw [hρ]; exact h)
  | (rw [hρ.1, hρ.2]; exact h)
  | (rw [hρ.1, hρ.2.1, hρ.2.2]; exact h)

theorem q07g {c : CO} {ρ : Operand -> A} {K : A -> Prop} {e : Nat -> A} {M : Nat -> Root} (hM : ∀ r, M r = .free ∨ S.roots r = M r) (h : coV P n c ρ ⟨e, M⟩ K) : coV P n c ρ S K := by
 have live : ∀ {r t lk}, M r = .live t lk -> S.roots r = .live t lk := fun {r t lk} hr => by
  rcases hM r with h | h
  ·rw [h] at hr; cases hr
  ·rw [h, hr]
 have cells : ∀ {r p}, (M r).cells = some p -> (S.roots r).cells = some p := fun {r p} hr => by
  rcases hM r with h | h
  ·rw [h] at hr; simp [Root.cells] at hr
  ·rw [h, hr]
 cases c <;> simp only [coV] at h ⊢
 case lenS =>
  unfold lenC at h ⊢
  split at h
  ·exact h
  ·exact h
  ·split at h
   ·rename_i hr; simp only [live hr]; exact h
   ·exact h.elim
  ·exact h
  ·exact h.elim
 case idx =>
  unfold idxC at h ⊢
  split at h
  ·refine ⟨h.1, ?_⟩
   have h2 := h.2
   split at h2
   ·exact h2
   ·split at h2
    ·rename_i hr; simp only [live hr]; exact h2
    ·exact h2.elim
   ·exact h2
   ·exact h2.elim
  ·exact h.elim
 case fld =>
  unfold fldC at h ⊢
  split at h
  ·exact h
  ·exact h
  ·split at h
   ·rename_i hr; simp only [live hr]; exact h
   ·exact h.elim
  ·exact h.elim
 case load1 =>
  unfold q0id at h ⊢
  split at h
  ·exact h
  ·split at h
   ·rename_i hr; simp only [cells hr]; exact h
   ·exact h.elim
  ·split at h
   ·rename_i hr; simp only [live hr]; exact h
   ·exact h.elim
  ·exact h.elim
 case loadN =>
  unfold q0ip at h ⊢
  split at h
  ·exact h
  ·split at h
   ·rename_i hr; simp only [cells hr]; exact h
   ·exact h.elim
  ·split at h
   ·rename_i hr; simp only [live hr]; exact h
   ·exact h.elim
  ·exact h.elim
 case nilc =>
  unfold q0lp at h ⊢
  split at h
  ·exact h
  ·split at h
   ·rename_i hr; simp only [live hr]; exact h
   ·exact h.elim
  ·exact h
  ·exact h
  ·exact h.elim
 case slc =>
  unfold slcC at h ⊢
  split at h
  ·exact h
  ·exact h
  ·split at h
   ·rename_i hr; simp only [live hr]; exact h
   ·exact h.elim
  ·exact h.elim
 case idxA =>
  unfold arrC at h ⊢
  split at h
  ·refine ⟨h.1, h.2.1, ?_⟩
   have h2 := h.2.2
   split at h2
   ·exact h2
   ·exact h2
   ·split at h2
    ·rename_i hr; simp only [live hr]; exact h2
    ·exact h2.elim
   ·exact h2.elim
  ·exact h.elim
 case call d f as =>
  cases d with
  | none => exact h
  | some d =>
    obtain ⟨x, hK, hall⟩ := h
    refine ⟨x, hK, fun d e' R' Kc h1 h2 h3 => hall d e' R' Kc (fun r => ?_) h2 h3⟩
    rcases hM r with h | h
    ·exact .inl h
    ·rcases h1 r with h' | h'
     ·exact .inl (show M r = .free from h.symm.trans h')
     ·exact .inr (show R' r = M r from h'.trans h)
 all_goals exact h

theorem q07h {c : CO} {d : Nat} (hd : c.dst = some d) {K : St -> Prop} (h : coV P n c S.ev S (putK S d K)) : coW P n c K S := by
 cases c <;> simp only [CO.dst, Option.some.injEq, reduceCtorEq] at hd <;> simp only [coV] at h <;> simp only [coW] <;> (try subst hd) <;> try exact h
 case load1 d x =>
  unfold q0id at h
  unfold q0i5
  split at h
  ·rename_i hx; rw [hx]; exact h
  ·rename_i hx; rw [hx]
   split at h
   ·rename_i hr; simp only [hr]
    refine ⟨h.1, ?_⟩
    have h2 := h.2
    split at h2
    ·rename_i hl; simp only [hl]; exact h2
    ·rename_i hl; simp only [hl]
     intro c hc
     have h3 := h2 c hc
     cases c <;> first | exact h3 | (simp [T.flat] at h3)
   ·exact h.elim
  ·rename_i hx; rw [hx]
   split at h
   ·rename_i hr; simp only [hr]
    refine ⟨h.1, ?_⟩
    have h2 := h.2
    split at h2
    ·rename_i hl; simp only [hl]; exact h2
    ·rename_i hl; simp only [hl]
     intro c hc
     have h3 := h2 c hc
     cases c <;> first | exact h3 | (simp [T.flat] at h3)
   ·exact h.elim
  ·exact h.elim
 case loadN d z x =>
  unfold q0ip at h
  unfold q0in
  split at h
  ·rename_i hx; rw [hx]; exact h
  ·rename_i hx; rw [hx]
   split at h
   ·rename_i hr; simp only [hr]; exact ⟨h.1, q05x h.2⟩
   ·exact h.elim
  ·rename_i hx; rw [hx]
   split at h
   ·rename_i hr; simp only [hr]; exact ⟨h.1, q05x h.2⟩
   ·exact h.elim
  ·exact h.elim
 case call f as =>
  obtain ⟨x, hK, hall⟩ := h
  exact hall d S.env S.roots K (fun r => .inr rfl) (fun y _ => rfl) hK
end
end Go.Ab

/- The abstract layer, part 23: operations that change roots: what they do is a list of changes that is determined by the slots and the roots that they look at. -/
namespace Go.Ab

def putE (e : Nat -> A) (d : Option Nat) (x : A) : Nat -> A := match d with | some d => upd e d x | none => e

def apR (D : List (Nat × Root)) (R : Nat -> Root) : Nat -> Root := D.foldl (fun R p => upd R p.1 p.2) R
theorem q00z (D D' : List (Nat × Root)) (R : Nat -> Root) : apR (D ++ D') R = apR D' (apR D R) := by simp [apR, List.foldl_append]
def q0h4 (D : List (Nat × Root)) : List Nat := D.map (·.1)
theorem q012 : ∀ (D : List (Nat × Root)) (R : Nat -> Root) (r : Nat), r ∉ q0h4 D -> apR D R r = R r
 | [], R, r, _ => rfl
 | p :: D, R, r, h => by
   simp only [q0h4, List.map_cons, qO, not_or] at h
   show apR D (upd R p.1 p.2) r = R r
   rw [q012 D _ r h.2, q0x1 _ _ _ _ h.1]
theorem q010 : ∀ (D : List (Nat × Root)) (R R' : Nat -> Root) (r : Nat), r ∈ q0h4 D ∨ R r = R' r -> apR D R r = apR D R' r
 | [], R, R', r, h => by
   rcases h with h | h
   ·simp [q0h4] at h
   ·exact h
 | p :: D, R, R', r, h => by
   show apR D (upd R p.1 p.2) r = apR D (upd R' p.1 p.2) r
   refine q010 D _ _ r ?_
   by_cases hr : r = p.1
   ·right; rw [hr, q0x2, q0x2]
   ·rw [q0x1 _ _ _ _ hr, q0x1 _ _ _ _ hr]
    rcases h with h | h
    ·simp only [q0h4, List.map_cons, qO] at h
     exact .inl (h.resolve_left hr)
    ·exact .inr h

def q0e0 (d : Nat) (r : Nat) : Prop := r = d ∨ r / 1000 = d + 1
def q0ji (m : List Nat) (R : Nat -> Root) : Nat -> Root := fun r => if m.any (fun d => decide (r = d) || decide (r / 1000 = d + 1)) then .free else R r
theorem q0jm (R : Nat -> Root) : q0ji [] R = R := rfl
theorem q0jn {m : List Nat} {R : Nat -> Root} {r : Nat} (h : q0ji m R r ≠ .free) : q0ji m R r = R r /\ ∀ d ∈ m, ¬ q0e0 d r := by
 unfold q0ji at h ⊢
 split at h
 ·exact absurd rfl h
 ·rename_i h1
  rw [if_neg h1]
  refine ⟨rfl, fun d hd hi => h1 ?_⟩
  rw [List.any_eq_true]
  exact ⟨d, hd, by rcases hi with hi | hi <;> simp [hi]⟩
theorem q0jk {m : List Nat} {R : Nat -> Root} {r d : Nat} (hd : d ∈ m) (h : q0e0 d r) : q0ji m R r = .free := by
 unfold q0ji
 rw [if_pos]
 rw [List.any_eq_true]
 exact ⟨d, hd, by rcases h with h | h <;> simp [h]⟩
theorem q0jl (m : List Nat) (R : Nat -> Root) (r : Nat) : q0ji m R r = .free ∨ R r = q0ji m R r := by
 unfold q0ji
 split
 ·exact .inl rfl
 ·exact .inr rfl

def CO.heavy : CO -> Bool
 | .store .. | .alloc .. | .box .. | .bslice .. | .make .. | .app .. | .load1 .. | .call .. => true
 | _ => false

def Ef (M : Nat -> Root) (d : Option Nat) (D : List (Nat × Root)) (x : A) (e0 : Nat -> A) (reads : List Operand) (W : (Nat -> A) -> (Nat -> Root) -> (St -> Prop) -> Prop) : Prop :=
 (∀ r ∈ q0h4 D, M r ≠ .free ∨ ∃ k, d = some k /\ q0e0 k r) ∧
 ∀ (e : Nat -> A) (R : Nat -> Root) (Kc : St -> Prop), (∀ y ∈ reads, St.ev ⟨e, R⟩ y = St.ev ⟨e0, M⟩ y) -> (∀ r, M r = .free ∨ R r = M r) -> (∀ r ∈ q0h4 D, M r = .free -> R r = .free) -> Kc ⟨putE e d x, apR D R⟩ -> W e R Kc

def q002 (P : Program) (n : Nat) (d : Option Nat) (f : Operand) (as : List Operand) (K : St -> Prop) (S : St) : Prop :=
 ∃ x D, K ⟨putE S.env d x, apR D S.roots⟩ /\ Ef S.roots d D x S.env (f :: as) fun e R Kc => q006 P n d f as Kc ⟨e, R⟩
def q000 (P : Program) (n : Nat) (d : Nat) (f : Operand) (as : List Operand) (m : List Nat) (K : St -> Prop) (S : St) : Prop :=
 ∃ x D, (∀ r ∈ q0h4 D, q0e0 d r) /\ K ⟨upd S.env d x, apR D S.roots⟩ /\ Ef (q0ji m S.roots) (some d) D x S.env (f :: as) fun e R Kc => q006 P n (some d) f as Kc ⟨e, R⟩

def q0cu : List A -> Option (List T)
 | [] => some []
 | .t c :: l => if c.cell then (q0cu l).map (c :: ·) else none
 | _ => none
def coN : CO -> (St -> Prop) -> St -> Prop
 | .alloc d zs, K, S => newK d .box K zs S
 | .make d zs eb l c, K, S => makeC zs eb (S.ev l) (S.ev c) d K S
 | .box d x, K, S => (match (q07j (S.ev x)).bind q0cu with | some ts => newK d .box K ts S | none => False)
 | .bslice d z len parts, K, S => (match (q08z (fun i => some (i * z, z)) (List.replicate (len * z) (.t .any)) (parts.map fun p => (p.1, S.ev p.2))).bind q0cu with | some ts => newK d (.arr z) K ts S | none => False)
 | _, _, _ => False
def coC (P : Program) (n : Nat) (all : Bool) (m : List Nat) : CO -> (St -> Prop) -> St -> Prop
 | .call (some d) f as, K, S => all = false /\ q000 P n d f as m K S
 | c, K, S => coN c K S

def coH (P : Program) (n : Nat) : CO -> (St -> Prop) -> St -> Prop
 | .call d f as, K, S => q002 P n d f as K S
 | c, K, S => coW P n c K S

section
variable {P : Program} {n : Nat} {S : St}

theorem q0cv : ∀ {l : List A} {ts : List T} {K : List T -> St -> Prop}, q0cu l = some ts -> K ts S -> q0cw S l K
 | [], ts, K, h, hK => by simp only [q0cu, Option.some.injEq] at h; subst h; exact hK
 | .t c :: l, ts, K, h, hK => by
   simp only [q0cu] at h
   split at h
   ·rename_i hc
    simp only [Option.map_eq_some_iff] at h
    obtain ⟨ts', h1, rfl⟩ := h
    exact ⟨hc, q0cv (K := fun ts S2 => K (c :: ts) S2) h1 hK⟩
   ·cases h

def Loc (M : Nat -> Root) (D : List (Nat × Root)) : Prop := ∀ r ∈ q0h4 D, M r ≠ .free

theorem q0da {a : A} {K : T -> St -> Prop} (h : q0d8 S a K) :
  ∃ t D, Loc S.roots D /\ K t ⟨S.env, apR D S.roots⟩ /\ ∀ e R (K' : T -> St -> Prop), (∀ r, S.roots r = .free ∨ R r = S.roots r) -> K' t ⟨e, apR D R⟩ -> q0d8 ⟨e, R⟩ a K' := by
 unfold q0d8 at h ⊢
 split at h
 ·exact ⟨_, [], fun r hr => by simp [q0h4] at hr, h.2, fun e R K' _ hK => ⟨h.1, hK⟩⟩
 ·rename_i q
  split at h
  ·rename_i hr
   refine ⟨_, [(q, .dead)], fun r hq => ?_, h, fun e R K' hR hK => ?_⟩
   ·have : r = q := by simpa [q0h4] using hq
    rw [this, hr]; intro h; cases h
   ·have : R q = S.roots q := (hR q).resolve_left (by rw [hr]; intro h; cases h)
    simp only [this, hr]; exact hK
  ·exact h.elim
 ·exact h.elim

theorem q00y {M R : Nat -> Root} (D : List (Nat × Root)) (h : ∀ r, M r = .free ∨ R r = M r) : ∀ r, apR D M r = .free ∨ apR D R r = apR D M r := by
 intro r
 by_cases hr : r ∈ q0h4 D
 ·exact .inr (q010 D _ _ r (.inl hr))
 ·rw [q012 D _ r hr, q012 D _ r hr]; exact h r

theorem Loc.append {M : Nat -> Root} {D D' : List (Nat × Root)} (h : Loc M D) (h' : Loc (apR D M) D') (hd : ∀ p ∈ D, p.2 = .dead ∨ True) : ∀ r ∈ q0h4 (D ++ D'), M r ≠ .free ∨ r ∈ q0h4 D := by
 intro r hr
 simp only [q0h4, qG, qI] at hr
 rcases hr with hr | hr
 ·exact .inl (h r hr)
 ·by_cases hD : r ∈ q0h4 D
  ·exact .inr hD
  ·have := h' r hr
   rw [q012 D _ r hD] at this
   exact .inl this
theorem Loc.join {M : Nat -> Root} {D D' : List (Nat × Root)} (h : Loc M D) (h' : Loc (apR D M) D') : Loc M (D ++ D') := fun r hr => by
 rcases h.append h' (fun _ _ => .inr trivial) r hr with h1 | h1
 ·exact h1
 ·exact h r h1

theorem q0cy : ∀ {as : List A} {S : St} {K : List T -> St -> Prop}, q0cw S as K →
  ∃ ts D, Loc S.roots D /\ K ts ⟨S.env, apR D S.roots⟩ /\ ∀ e R (K' : List T -> St -> Prop), (∀ r, S.roots r = .free ∨ R r = S.roots r) -> K' ts ⟨e, apR D R⟩ -> q0cw ⟨e, R⟩ as K'
 | [], S, K, h => ⟨[], [], fun r hr => by simp [q0h4] at hr, h, fun _ _ _ _ h => h⟩
 | a :: as, S, K, h => by
   obtain ⟨t, D1, l1, h1, h2⟩ := q0da (h : q0d8 S a _)
   obtain ⟨ts, D2, l2, h3, h4⟩ := q0cy h1
   refine ⟨t :: ts, D1 ++ D2, l1.join l2, by rw [q00z]; exact h3, fun e R K' hR hK => h2 e R _ hR (h4 e _ _ (q00y D1 hR) ?_)⟩
   rw [q00z] at hK; exact hK

theorem q01p {x : A} {z : Nat} {K : List T -> St -> Prop} (h : q01n S x z K) :
  ∃ t D, Loc S.roots D /\ K t ⟨S.env, apR D S.roots⟩ /\ ∀ e R (K' : List T -> St -> Prop), (∀ r, S.roots r = .free ∨ R r = S.roots r) -> K' t ⟨e, apR D R⟩ -> q01n ⟨e, R⟩ x z K' := by
 unfold q01n at h ⊢
 split at h
 ·exact ⟨_, [], fun r hr => by simp [q0h4] at hr, h, fun e R K' _ hK => hK⟩
 ·rename_i q
  split at h
  ·rename_i hr
   refine ⟨_, [(q, .dead)], fun r hq => ?_, h.2, fun e R K' hR hK => ?_⟩
   ·have : r = q := by simpa [q0h4] using hq
    rw [this, hr]; intro h; cases h
   ·have : R q = S.roots q := (hR q).resolve_left (by rw [hr]; intro h; cases h)
    simp only [this, hr]; exact ⟨h.1, hK⟩
  ·exact h.elim
 ·exact h.elim

theorem q0te {x : A} {z : Nat} {K : List T -> St -> Prop} (h : srcW S x z K) :
  ∃ t D, Loc S.roots D /\ K t ⟨S.env, apR D S.roots⟩ /\ ∀ e R (K' : List T -> St -> Prop), (∀ r, S.roots r = .free ∨ R r = S.roots r) -> K' t ⟨e, apR D R⟩ -> srcW ⟨e, R⟩ x z K' := by
 unfold srcW at h ⊢
 split at h
 ·exact ⟨_, [], fun r hr => by simp [q0h4] at hr, h, fun e R K' _ hK => hK⟩
 ·exact ⟨_, [], fun r hr => by simp [q0h4] at hr, h.2.2, fun e R K' _ hK => ⟨h.1, h.2.1, hK⟩⟩
 ·rename_i q
  split at h
  ·rename_i s l hr
   obtain ⟨h1, h2, h3⟩ := h
   have hq : ∀ {R : Nat -> Root}, (∀ r, S.roots r = .free ∨ R r = S.roots r) -> R q = S.roots q := fun hR => (hR q).resolve_left (by rw [hr]; intro h; cases h)
   cases hf : l.all T.flat
   ·rw [hf] at h3
    refine ⟨l, [(q, .dead)], fun r hq => ?_, h3, fun e R K' hR hK => ?_⟩
    ·have : r = q := by simpa [q0h4] using hq
     rw [this, hr]; intro h; cases h
    ·simp only [hq hR, hr]; exact ⟨h1, h2, by rw [hf]; exact hK⟩
   ·rw [hf] at h3
    exact ⟨l, [], fun r hr => by simp [q0h4] at hr, h3, fun e R K' hR hK => by simp only [hq hR, hr]; exact ⟨h1, h2, by rw [hf]; exact hK⟩⟩
  ·exact h.elim
 ·rename_i q _ _
  split at h
  ·rename_i hr
   refine ⟨_, [], fun r hr => by simp [q0h4] at hr, h.2.2.2.2, fun e R K' hR hK => ?_⟩
   have : R q = S.roots q := (hR q).resolve_left (by rw [hr]; intro h; cases h)
   simp only [this, hr]; exact ⟨h.1, h.2.1, h.2.2.1, h.2.2.2.1, hK⟩
  ·exact h.elim
 ·exact h.elim

theorem q0l7 {d : Nat} {mk : List T -> T} {K : St -> Prop} {ts : List T} (h : newK d mk K ts S) :
  ∃ D, q0h4 D = [d] /\ S.roots d = .free /\ K ⟨upd S.env d (.own d), apR D S.roots⟩ /\ ∀ e R (K' : St -> Prop), R d = .free -> K' ⟨upd e d (.own d), apR D R⟩ -> newK d mk K' ts ⟨e, R⟩ :=
 ⟨[(d, .live (mk ts) [])], rfl, h.1, h.2, fun e R K' hR hK => ⟨hR, hK⟩⟩

theorem q0tp {r off z : Nat} {K : St -> Prop} {ts : List T} (h : q0tm r off z K ts S) :
  ∃ D, Loc S.roots D /\ K ⟨S.env, apR D S.roots⟩ /\ ∀ e R (K' : St -> Prop), (∀ r, S.roots r = .free ∨ R r = S.roots r) -> K' ⟨e, apR D R⟩ -> q0tm r off z K' ts ⟨e, R⟩ := by
 unfold q0tm at h ⊢
 split at h
 ·rename_i l lk hr
  have hne : S.roots r ≠ .free := by intro hf; rw [hf] at hr; simp [Root.cells] at hr
  refine ⟨[(r, (S.roots r).with (spl l off ts) (lk.filter fun p => p.1 < off || off + z <= p.1))], fun r' hr' => ?_, h.2.2, fun e R K' hR hK => ?_⟩
  ·have : r' = r := by simpa [q0h4] using hr'
   rw [this]; exact hne
  ·have hRr : R r = S.roots r := (hR r).resolve_left hne
   simp only [hRr, hr]
   exact ⟨h.1, h.2.1, hK⟩
 ·exact h.elim

theorem Ef.ofLoc {M : Nat -> Root} {d : Option Nat} {D : List (Nat × Root)} (h : Loc M D) : ∀ r ∈ q0h4 D, M r ≠ .free ∨ ∃ k, d = some k /\ q0e0 k r := fun r hr => .inl (h r hr)

theorem q09z {M R : Nat -> Root} {D : List (Nat × Root)} {d : Nat} (hl : Loc M D) (hd : apR D M d = .free) (hR : ∀ r, M r = .free ∨ R r = M r) (hf : M d = .free -> R d = .free) : apR D R d = .free := by
 by_cases hr : d ∈ q0h4 D
 ·rw [q010 D R M d (.inl hr)]; exact hd
 ·rw [q012 D _ d hr] at hd ⊢
  exact hf hd

theorem q0h5 {M : Nat -> Root} {D1 D2 : List (Nat × Root)} {d : Nat} (h1 : Loc M D1) (h2 : q0h4 D2 = [d]) : ∀ r ∈ q0h4 (D1 ++ D2), M r ≠ .free ∨ ∃ k, some d = some k /\ q0e0 k r := by
 intro r hr
 rw [q0h4, qG, qI] at hr
 rcases hr with hr | hr
 ·exact .inl (h1 r hr)
 ·have : r = d := by
   have : r ∈ q0h4 D2 := hr
   rw [h2] at this; simpa using this
  exact .inr ⟨d, rfl, .inl this⟩

theorem q0i7 {x : A} {d : Nat} {K : St -> Prop} (h : q0i5 x d K S) : ∃ v D, K ⟨upd S.env d v, apR D S.roots⟩ /\ (∀ r ∈ q0h4 D, S.roots r ≠ .free ∨ ∃ k, some d = some k /\ q0e0 k r) ∧
  ∀ e R (K' : St -> Prop), (∀ r, S.roots r = .free ∨ R r = S.roots r) -> (∀ r ∈ q0h4 D, S.roots r = .free -> R r = .free) -> K' ⟨upd e d v, apR D R⟩ -> q0i5 x d K' ⟨e, R⟩ := by
 have key : ∀ (r off : Nat) (l : List T) (lk : List (Nat × Nat)) (c : T), S.roots r ≠ .free -> q0il S r off d l lk c K -> ∃ v D, K ⟨upd S.env d v, apR D S.roots⟩ /\ (∀ r ∈ q0h4 D, S.roots r ≠ .free ∨ ∃ k, some d = some k /\ q0e0 k r) ∧
   ∀ e R (K' : St -> Prop), (∀ r, S.roots r = .free ∨ R r = S.roots r) -> (∀ r ∈ q0h4 D, S.roots r = .free -> R r = .free) -> K' ⟨upd e d v, apR D R⟩ -> q0il ⟨e, R⟩ r off d l lk c K' := by
  intro r off l lk c hne h
  unfold q0il at h ⊢
  split at h
  ·rename_i s l'
   refine ⟨.own d, [(r, (S.roots r).with (l.set off .any) ((off, d) :: lk)), (d, .live (.arr s l') [])], h.2, fun r' hr' => ?_, fun e R K' hR hf hK => ?_⟩
   ·simp only [q0h4, List.map_cons, List.map_nil, qO, List.not_mem_nil, or_false] at hr'
    rcases hr' with rfl | rfl
    ·exact .inl hne
    ·exact .inr ⟨_, rfl, .inl rfl⟩
   ·have hRr : R r = S.roots r := (hR r).resolve_left hne
    simp only [hRr]
    exact ⟨hf d (by simp [q0h4]) h.1, hK⟩
  ·rename_i l'
   refine ⟨.own d, [(r, (S.roots r).with (l.set off .any) ((off, d) :: lk)), (d, .live (.box l') [])], h.2, fun r' hr' => ?_, fun e R K' hR hf hK => ?_⟩
   ·simp only [q0h4, List.map_cons, List.map_nil, qO, List.not_mem_nil, or_false] at hr'
    rcases hr' with rfl | rfl
    ·exact .inl hne
    ·exact .inr ⟨_, rfl, .inl rfl⟩
   ·have hRr : R r = S.roots r := (hR r).resolve_left hne
    simp only [hRr]
    exact ⟨hf d (by simp [q0h4]) h.1, hK⟩
  ·exact ⟨_, [], h.2, fun r hr => by simp [q0h4] at hr, fun e R K' _ _ hK => ⟨h.1, hK⟩⟩
 unfold q0i5 at h ⊢
 split at h
 ·obtain ⟨c, hc⟩ := q08u h.1
  exact ⟨_, [], h.2 c hc, fun r hr => by simp [q0h4] at hr, fun e R K' _ _ hK => ⟨h.1, fun c' hc' => by rw [hc] at hc'; cases hc'; exact hK⟩⟩
 ·rename_i r off
  split at h
  ·rename_i hr
   have hne : S.roots r ≠ .free := by intro hf; rw [hf] at hr; simp [Root.cells] at hr
   obtain ⟨h0, h⟩ := h
   split at h
   ·rename_i hl
    refine ⟨_, [], h, fun r hr => by simp [q0h4] at hr, fun e R K' hR _ hK => ?_⟩
    have hRr : R r = S.roots r := (hR r).resolve_left hne
    simp only [hRr, hr, hl]; exact ⟨h0, hK⟩
   ·rename_i hl
    obtain ⟨c, hc⟩ := q08u h0
    obtain ⟨v, D, h1, h2, h3⟩ := key _ _ _ _ _ hne (h c hc)
    refine ⟨v, D, h1, h2, fun e R K' hR hf hK => ?_⟩
    have hRr : R r = S.roots r := (hR r).resolve_left hne
    simp only [hRr, hr, hl]
    exact ⟨h0, fun c' hc' => by rw [hc] at hc'; cases hc'; exact h3 e R K' hR hf hK⟩
  ·exact h.elim
 ·rename_i r
  split at h
  ·rename_i hr
   have hne : S.roots r ≠ .free := by rw [hr]; intro h; cases h
   obtain ⟨h0, h⟩ := h
   split at h
   ·rename_i hl
    refine ⟨_, [], h, fun r hr => by simp [q0h4] at hr, fun e R K' hR _ hK => ?_⟩
    have hRr : R r = S.roots r := (hR r).resolve_left hne
    simp only [hRr, hr, hl]; exact ⟨h0, hK⟩
   ·rename_i hl
    obtain ⟨c, hc⟩ := q08u h0
    obtain ⟨v, D, h1, h2, h3⟩ := key _ _ _ _ _ hne (h c hc)
    refine ⟨v, D, h1, h2, fun e R K' hR hf hK => ?_⟩
    have hRr : R r = S.roots r := (hR r).resolve_left hne
    simp only [hRr, hr, hl]
    exact ⟨h0, fun c' hc' => by rw [hc] at hc'; cases hc'; exact h3 e R K' hR hf hK⟩
  ·exact h.elim
 ·exact h.elim

theorem q00o {R : Nat -> Root} {e : Nat -> A} {x : A} {p : Nat × Nat} (hR : ∀ r, S.roots r = .free ∨ R r = S.roots r) (h : q00n S x = some p) : q00n ⟨e, R⟩ x = some p := by
 unfold q00n at h ⊢
 split at h
 ·exact h
 ·rename_i r
  split at h
  ·rename_i hr
   have hRr : R r = S.roots r := (hR r).resolve_left (by rw [hr]; intro h; cases h)
   simp only [hRr, hr]; exact h
  ·cases h
 ·cases h

theorem q077 {c : CO} {K : St -> Prop} (hk : c.heavy = true) (h : coH P n c K S) :
  ∃ x D, K ⟨putE S.env c.dst x, apR D S.roots⟩ /\ Ef S.roots c.dst D x S.env c.reads fun e R Kc => coW P n c Kc ⟨e, R⟩ := by
 cases c <;> simp only [CO.heavy, Bool.false_eq_true] at hk <;> simp only [coH, coW] at h
 case store z x v =>
  unfold q0tk at h
  split at h
  ·rename_i h1 h2
   obtain ⟨ts, D1, l1, h3, h4⟩ := q0cy h.2
   obtain ⟨D2, l2, h5, h6⟩ := q0tp h3
   refine ⟨.t .any, D1 ++ D2, by rw [q00z]; exact h5, Ef.ofLoc (l1.join l2), fun e R Kc hr hR hf hK => ?_⟩
   simp only [CO.reads, qO, List.not_mem_nil, or_false, forall_eq_or_imp, forall_eq] at hr
   show q0tk z (St.ev ⟨e, R⟩ x) (St.ev ⟨e, R⟩ v) Kc ⟨e, R⟩
   unfold q0tk
   rw [hr.1, hr.2, show q00n ⟨e, R⟩ (St.ev ⟨S.env, S.roots⟩ x) = _ from q00o hR h1, show q07j (St.ev ⟨S.env, S.roots⟩ v) = _ from h2]
   exact ⟨h.1, h4 e R _ hR (h6 e _ _ (q00y D1 hR) (by rw [q00z] at hK; exact hK))⟩
  ·exact h.elim
 case alloc d zs =>
  obtain ⟨D, hk, hd, h1, h2⟩ := q0l7 h
  refine ⟨.own d, D, h1, q0h5 (D1 := []) (fun r hr => by simp [q0h4] at hr) hk, fun e R Kc hr hR hf hK => h2 e R Kc (hf d (by rw [hk]; simp) hd) hK⟩
 case box d x =>
  unfold boxW at h
  split at h
  ·rename_i h1
   obtain ⟨ts, D1, l1, h3, h4⟩ := q0cy h
   obtain ⟨D2, hk, hd, h5, h6⟩ := q0l7 h3
   refine ⟨.own d, D1 ++ D2, by rw [q00z]; exact h5, q0h5 l1 hk, fun e R Kc hr hR hf hK => ?_⟩
   simp only [CO.reads, qO, List.not_mem_nil, or_false, forall_eq] at hr
   show boxW (St.ev ⟨e, R⟩ x) d ⟨e, R⟩ Kc
   unfold boxW
   rw [hr, show q07j (St.ev ⟨S.env, S.roots⟩ x) = _ from h1]
   refine h4 e R _ hR (h6 e _ _ (q09z l1 hd hR fun hm => hf d ?_ hm) (by rw [q00z] at hK; exact hK))
   rw [q0h4, qG, qI]; right
   show d ∈ q0h4 D2
   rw [hk]; simp
  ·exact h.elim
 case bslice d z len parts =>
  unfold q02l at h
  split at h
  ·rename_i h1
   obtain ⟨ts, D1, l1, h3, h4⟩ := q0cy h
   obtain ⟨D2, hk, hd, h5, h6⟩ := q0l7 h3
   refine ⟨.own d, D1 ++ D2, by rw [q00z]; exact h5, q0h5 l1 hk, fun e R Kc hr hR hf hK => ?_⟩
   simp only [CO.reads] at hr
   have e1 : (parts.map fun p => (p.1, St.ev ⟨e, R⟩ p.2)) = parts.map fun p => (p.1, S.ev p.2) := rW fun p hp => by rw [hr _ (qN.2 ⟨p, hp, rfl⟩)]
   show q02l z len d (parts.map fun p => (p.1, St.ev ⟨e, R⟩ p.2)) Kc ⟨e, R⟩
   unfold q02l
   rw [e1, h1]
   refine h4 e R _ hR (h6 e _ _ (q09z l1 hd hR fun hm => hf d ?_ hm) (by rw [q00z] at hK; exact hK))
   rw [q0h4, qG, qI]; right
   show d ∈ q0h4 D2
   rw [hk]; simp
  ·exact h.elim
 case make d zs eb l c =>
  unfold makeC at h
  split at h
  ·rename_i h1 h2
   obtain ⟨D, hk, hd, h5, h6⟩ := q0l7 h.2.2.2
   refine ⟨.own d, D, h5, q0h5 (D1 := []) (fun r hr => by simp [q0h4] at hr) hk, fun e R Kc hr hR hf hK => ?_⟩
   simp only [CO.reads, qO, List.not_mem_nil, or_false, forall_eq_or_imp, forall_eq] at hr
   show makeC zs eb (St.ev ⟨e, R⟩ l) (St.ev ⟨e, R⟩ c) d Kc ⟨e, R⟩
   unfold makeC
   rw [hr.1, hr.2, show St.ev ⟨S.env, S.roots⟩ l = _ from h1, show St.ev ⟨S.env, S.roots⟩ c = _ from h2]
   exact ⟨h.1, h.2.1, h.2.2.1, h6 e R _ (hf d (by rw [hk]; simp) hd) hK⟩
  ·exact h.elim
 case app d z eb b x =>
  obtain ⟨l1, D1, c1, h1, h2⟩ := q01p h
  obtain ⟨l2, D2, c2, h3, h4⟩ := q0te (show srcW _ _ _ _ from h1)
  obtain ⟨D3, hk, hd, h5, h6⟩ := q0l7 (show newK _ _ _ _ _ from h3.2)
  have c12 := c1.join c2
  refine ⟨.own d, (D1 ++ D2) ++ D3, by rw [q00z, q00z]; exact h5, q0h5 c12 hk, fun e R Kc hr hR hf hK => ?_⟩
  simp only [CO.reads, qO, List.not_mem_nil, or_false, forall_eq_or_imp, forall_eq] at hr
  show q01n ⟨e, R⟩ (St.ev ⟨e, R⟩ b) z (q014 (St.ev ⟨e, R⟩ x) d z eb Kc)
  rw [hr.1, hr.2]
  refine h2 e R _ hR ?_
  refine h4 e _ _ (q00y D1 hR) ⟨h3.1, h6 e _ _ ?_ (by rw [q00z, q00z] at hK; exact hK)⟩
  have hd' : apR (D1 ++ D2) S.roots d = .free := by rw [q00z]; exact hd
  have := q09z c12 hd' hR fun hm => hf d (by
   rw [q0h4, qG, qI]; right
   show d ∈ q0h4 D3
   rw [hk]; simp) hm
  rw [q00z] at this; exact this
 case load1 d x =>
  obtain ⟨y, D, h5, h6, h7⟩ := q0i7 h
  refine ⟨y, D, h5, h6, fun e R Kc hr hR hf hK => ?_⟩
  simp only [CO.reads, qO, List.not_mem_nil, or_false, forall_eq] at hr
  show q0i5 (St.ev ⟨e, R⟩ x) d Kc ⟨e, R⟩
  rw [hr]; exact h7 e R Kc hR hf hK
 case call d f as =>
  obtain ⟨x, D, h1, h2⟩ := h
  exact ⟨x, D, h1, h2.1, fun e R Kc hr hR hf hK => h2.2 e R Kc hr hR hf hK⟩

theorem q06z {c : CO} {all : Bool} {m : List Nat} {K : St -> Prop} (h : coC P n all m c K S) :
  ∃ d x D, c.dst = some d /\ (∀ r ∈ q0h4 D, q0e0 d r) /\ K ⟨putE S.env c.dst x, apR D S.roots⟩ /\ Ef (if all then fun _ => .free else q0ji m S.roots) c.dst D x S.env c.reads fun e R Kc => coW P n c Kc ⟨e, R⟩ := by
 have mkEf : ∀ {M : Nat -> Root} {d : Nat} {D : List (Nat × Root)} {x : A} {reads : List Operand} {W : (Nat -> A) -> (Nat -> Root) -> (St -> Prop) -> Prop}, q0h4 D = [d] -> M d = .free →
   (∀ e R Kc, (∀ y ∈ reads, St.ev ⟨e, R⟩ y = St.ev ⟨S.env, M⟩ y) -> R d = .free -> Kc ⟨upd e d x, apR D R⟩ -> W e R Kc) -> Ef M (some d) D x S.env reads W := fun {M d D x reads W} hk hd h =>
  ⟨fun r hr => .inr ⟨d, rfl, .inl (by rw [hk] at hr; simpa using hr)⟩, fun e R Kc hr hR hf hK => h e R Kc hr (hf d (by rw [hk]; simp) hd) hK⟩
 have Mfree : ∀ {d : Nat}, S.roots d = .free -> (if all then fun _ => Root.free else q0ji m S.roots) d = .free := fun {d} hd => by
  cases all
  ·rcases q0jl m S.roots d with h | h
   ·exact h
   ·exact h.symm.trans hd
  ·rfl
 have ids : ∀ {d : Nat} {D : List (Nat × Root)}, q0h4 D = [d] -> ∀ r ∈ q0h4 D, q0e0 d r := fun {d D} hk r hr => .inl (by rw [hk] at hr; simpa using hr)
 have evS : ∀ (M : Nat -> Root) (y : Operand), St.ev ⟨S.env, M⟩ y = S.ev y := fun M y => by cases y <;> rfl
 have calls : ∀ d f as, coC P n all m (.call (some d) f as) K S -> ∃ d' x D, (CO.call (some d) f as).dst = some d' /\ (∀ r ∈ q0h4 D, q0e0 d' r) /\ K ⟨putE S.env (CO.call (some d) f as).dst x, apR D S.roots⟩ /\ Ef (if all then fun _ => .free else q0ji m S.roots) (CO.call (some d) f as).dst D x S.env (CO.call (some d) f as).reads fun e R Kc => coW P n (.call (some d) f as) Kc ⟨e, R⟩ := by
  intro d f as h
  obtain ⟨rfl, x, D, h1, h2, h3⟩ := h
  exact ⟨d, x, D, rfl, h1, h2, h3.1, fun e R Kc hr hR hf hK => h3.2 e R Kc hr hR hf hK⟩
 cases c
 case call d f as =>
  cases d with
  | none => exact (h : False).elim
  | some d => exact calls d f as h
 case alloc d zs =>
  obtain ⟨D, hk, hd, h1, h2⟩ := q0l7 (h : newK d .box K zs S)
  exact ⟨d, .own d, D, rfl, ids hk, h1, mkEf hk (Mfree hd) fun e R Kc _ hR hK => h2 e R Kc hR hK⟩
 case make d zs eb l c =>
  have h : makeC zs eb (S.ev l) (S.ev c) d K S := h
  unfold makeC at h
  split at h
  ·rename_i h1 h2
   obtain ⟨D, hk, hd, h5, h6⟩ := q0l7 h.2.2.2
   refine ⟨d, .own d, D, rfl, ids hk, h5, mkEf hk (Mfree hd) fun e R Kc hr hR hK => ?_⟩
   simp only [CO.reads, qO, List.not_mem_nil, or_false, forall_eq_or_imp, forall_eq] at hr
   show makeC zs eb (St.ev ⟨e, R⟩ l) (St.ev ⟨e, R⟩ c) d Kc ⟨e, R⟩
   unfold makeC
   rw [hr.1, hr.2, evS _ l, evS _ c, h1, h2]
   exact ⟨h.1, h.2.1, h.2.2.1, h6 e R _ hR hK⟩
  ·exact h.elim
 case box d x =>
  have h : (match (q07j (S.ev x)).bind q0cu with | some ts => newK d .box K ts S | none => False) := h
  split at h
  ·rename_i ts hts
   obtain ⟨as, h1, h2⟩ := Option.bind_eq_some_iff.1 hts
   obtain ⟨D, hk, hd, h5, h6⟩ := q0l7 h
   refine ⟨d, .own d, D, rfl, ids hk, h5, mkEf hk (Mfree hd) fun e R Kc hr hR hK => ?_⟩
   simp only [CO.reads, qO, List.not_mem_nil, or_false, forall_eq] at hr
   show boxW (St.ev ⟨e, R⟩ x) d ⟨e, R⟩ Kc
   unfold boxW
   rw [hr, evS, h1]
   exact q0cv h2 (h6 e R _ hR hK)
  ·exact h.elim
 case bslice d z len parts =>
  have h : (match (q08z (fun i => some (i * z, z)) (List.replicate (len * z) (.t .any)) (parts.map fun p => (p.1, S.ev p.2))).bind q0cu with | some ts => newK d (.arr z) K ts S | none => False) := h
  split at h
  ·rename_i ts hts
   obtain ⟨as, h1, h2⟩ := Option.bind_eq_some_iff.1 hts
   obtain ⟨D, hk, hd, h5, h6⟩ := q0l7 h
   refine ⟨d, .own d, D, rfl, ids hk, h5, mkEf hk (Mfree hd) fun e R Kc hr hR hK => ?_⟩
   simp only [CO.reads] at hr
   have e1 : (parts.map fun p => (p.1, St.ev ⟨e, R⟩ p.2)) = parts.map fun p => (p.1, S.ev p.2) := rW fun p hp => by rw [hr _ (qN.2 ⟨p, hp, rfl⟩), evS]
   show q02l z len d (parts.map fun p => (p.1, St.ev ⟨e, R⟩ p.2)) Kc ⟨e, R⟩
   unfold q02l
   rw [e1, h1]
   exact q0cv h2 (h6 e R _ hR hK)
  ·exact h.elim
 all_goals exact (h : False).elim
end
end Go.Ab

/- The abstract layer, part 24: a region that draws its order. -/
namespace Go.Ab

inductive DK where
 | r (all : Bool) (m : List Nat)
 | c (all : Bool) (m : List Nat)
 | h (w : Option (List Nat)) (m : List Nat)
deriving DecidableEq
def kE : DK := .r true []
def kR : DK := .r false []
def kN : DK := .c true []
def kH : DK := .h none []

def DK.mask : DK -> (Nat -> Root) -> Nat -> Root
 | .r all m, R => if all then fun _ => .free else q0ji m R
 | .c all m, R => if all then fun _ => .free else q0ji m R
 | .h _ m, R => q0ji m R
def DK.isR : DK -> Bool
 | .r _ _ => true
 | _ => false
def DK.isC : DK -> Bool
 | .c _ _ => true
 | _ => false

def DK.isH : DK -> Bool
 | .h _ _ => true
 | _ => false

def slotsOf (l : List Operand) : List Nat := l.filterMap fun | .tmp t => some t | _ => none
def CI.reads : CI -> List Nat
 | .o c => slotsOf c.reads
 | .g s _ _ c => s :: slotsOf c.reads
def CI.dst : CI -> Option Nat
 | .o c => c.dst
 | .g _ _ d _ => d
def q0qw (k : DK) (d : Option Nat) : Bool := match k with | .h _ [] => true | .h (some _) m => (match d with | some d => decide (d < 1000) && !m.contains d | none => true) && m.all fun d => decide (d < 1000) | .h none _ => false | _ => true
def q0g6 : DK × CI -> Bool
 | (k, .o c) => (!k.isH || c.heavy) && q0qw k c.dst
 | (k, .g _ _ d c) => (!k.isH || c.heavy) && q0qw k c.dst && d == c.dst

def putD (S : St) (d : Option Nat) (K : St -> Prop) (a : A) : Prop := K ⟨putE S.env d a, S.roots⟩
theorem q0oe (S : St) (d : Nat) (K : St -> Prop) (a : A) : putD S (some d) K a = K ⟨upd S.env d a, S.roots⟩ := rfl

instance (d r : Nat) : Decidable (q0e0 d r) := by unfold q0e0; exact inferInstance
def q09v (W : List Nat) (d : Option Nat) (R R' : Nat -> Root) : Prop := ∀ r, (∀ k ∈ W, ¬ q0e0 k r) -> (∀ k, d = some k -> ¬ q0e0 k r) -> R' r = R r
theorem q09v.refl (W : List Nat) (d : Option Nat) (R : Nat -> Root) : q09v W d R R := fun _ _ _ => rfl
theorem q09v.upd {W : List Nat} {d : Option Nat} {R R' : Nat -> Root} {j : Nat} (x : Root) (h : q09v W d R R') (hj : j ∈ W ∨ d = some j) : q09v W d R (Go.Ab.upd R' j x) := fun r h1 h2 => by
 rw [q0x1 _ _ _ _ fun e => ?_]
 ·exact h r h1 h2
 ·rcases hj with hj | hj
  ·exact h1 j hj (.inl e)
  ·exact h2 j hj (.inl e)
def q0k5 (m : List Nat) (R R' : Nat -> Root) : Nat -> Root := fun r => if m.any (fun d => decide (r = d) || decide (r / 1000 = d + 1)) then R r else R' r
theorem q0k9 (m : List Nat) (R R' : Nat -> Root) (i : Nat) (x : Root) : q0k5 m R (Go.Ab.upd R' i x) = if m.any (fun d => decide (i = d) || decide (i / 1000 = d + 1)) then q0k5 m R R' else Go.Ab.upd (q0k5 m R R') i x := by
 funext r
 by_cases hr : r = i
 ·subst hr
  split
  ·rename_i h; simp only [q0k5, h, if_true]
  ·rename_i h; rw [q0x2]; simp only [q0k5]; rw [if_neg h, q0x2]
 ·split
  ·simp only [q0k5]; rw [q0x1 _ _ _ _ hr]
  ·rw [q0x1 _ _ _ _ hr]; simp only [q0k5]; rw [q0x1 _ _ _ _ hr]
theorem q0k8 (m : List Nat) (R : Nat -> Root) : q0k5 m R (q0ji m R) = R := by
 funext r
 simp only [q0k5, q0ji]
 split <;> rfl
theorem q0k6 {m : List Nat} {R : Nat -> Root} {D : List (Nat × Root)} {dst : Option Nat} (hm : ∀ d ∈ m, d < 1000) (hd : ∀ d, dst = some d -> d < 1000 /\ d ∉ m) (hk : ∀ r ∈ q0h4 D, q0ji m R r ≠ .free ∨ ∃ d, dst = some d /\ q0e0 d r) :
  q0k5 m R (apR D (q0ji m R)) = apR D R := by
 funext r
 simp only [q0k5]
 split
 ·rename_i h
  have hid : ∃ d ∈ m, q0e0 d r := by
   obtain ⟨d, hd, h⟩ := List.any_eq_true.1 h
   exact ⟨d, hd, by simpa [q0e0] using h⟩
  refine (q012 D R r fun hr => ?_).symm
  rcases hk r hr with h1 | ⟨d', h1, h2⟩
  ·exact h1 (by simp only [q0ji]; rw [if_pos h])
  ·obtain ⟨d, hdm, hdr⟩ := hid
   obtain ⟨h3, h4⟩ := hd d' h1
   have h5 := hm d hdm
   have hne : d ≠ d' := fun e => h4 (e ▸ hdm)
   rcases hdr with hdr | hdr <;> rcases h2 with h2 | h2
   ·exact hne (hdr.symm.trans h2)
   ·omega
   ·omega
   ·omega
 ·rename_i h
  refine q010 D _ _ r (.inr ?_)
  simp only [q0ji]; rw [if_neg h]
def valD (P : Program) (n : Nat) : DK -> CO -> (St -> Prop) -> St -> Prop
 | .h none [], c, K, S => coH P n c K S
 | .h (some W) [], c, K, S => coH P n c (fun S' => K S' /\ q09v W c.dst S.roots S'.roots) S
 | .h (some W) (d :: m), c, K, S => coH P n c (fun S' => K ⟨S'.env, q0k5 (d :: m) S.roots S'.roots⟩ /\ q09v W c.dst (q0ji (d :: m) S.roots) S'.roots) ⟨S.env, q0ji (d :: m) S.roots⟩
 | .h none (_ :: _), _, _, _ => False
 | .r all m, c, K, S => coV P n c S.ev ⟨S.env, if all then fun _ => .free else q0ji m S.roots⟩ (putD S c.dst K)
 | .c all m, c, K, S => coC P n all m c K S
def q0g3 (P : Program) (n : Nat) : DK -> CI -> (St -> Prop) -> St -> Prop
 | k, .o c, K, S => valD P n k c K S
 | k, .g s want d c, K, S => q0dc (S.env s) s want d (valD P n k c K) K S
def q085 (P : Program) (n : Nat) : List (DK × CI) -> (St -> Prop) -> St -> Prop
 | [], K, S => K S
 | (k, c) :: l, K, S => q0g3 P n k c (q085 P n l K) S

structure LocAt (P : Program) (n : Nat) (k : DK) (c : CI) (S : St) (x : A) (D : List (Nat × Root)) : Prop where
 keys : ∀ r ∈ q0h4 D, k.mask S.roots r ≠ .free ∨ ∃ d, c.dst = some d /\ q0e0 d r
 isR : k.isR = true -> D = []
 isC : k.isC = true -> ∀ r ∈ q0h4 D, ∃ d, c.dst = some d /\ q0e0 d r
 isH : ∀ W m, k = .h (some W) m -> ∀ r ∈ q0h4 D, (∃ d ∈ W, q0e0 d r) ∨ ∃ d, c.dst = some d /\ q0e0 d r
 run : ∀ (e : Nat -> A) (R : Nat -> Root) (Kc : St -> Prop), (∀ s ∈ c.reads, e s = S.env s) -> (∀ r, k.mask S.roots r = .free ∨ R r = k.mask S.roots r) -> (∀ r ∈ q0h4 D, k.mask S.roots r = .free -> R r = .free) →
  Kc ⟨putE e c.dst x, apR D R⟩ -> opsW P n [c] Kc ⟨e, R⟩

section
variable {P : Program} {n : Nat} {S : St}

theorem q08i {e e' : Nat -> A} {R R' : Nat -> Root} {l : List Operand} (h : ∀ s ∈ slotsOf l, e s = e' s) : ∀ y ∈ l, St.ev ⟨e, R⟩ y = St.ev ⟨e', R'⟩ y := by
 intro y hy
 cases y with
 | tmp t => exact h t (List.mem_filterMap.2 ⟨_, hy, rfl⟩)
 | _ => rfl

theorem q011 (p : Nat -> Bool) : ∀ (D : List (Nat × Root)) (R : Nat -> Root) (r : Nat), (p r = true -> apR (D.filter fun q => p q.1) R r = apR D R r) /\ (p r = false -> apR (D.filter fun q => p q.1) R r = R r) := by
 intro D
 have h2 : ∀ (R : Nat -> Root) (r : Nat), p r = false -> apR (D.filter fun q => p q.1) R r = R r := fun R r h => q012 _ _ _ fun hk => by
  obtain ⟨q, hq, rfl⟩ := qN.1 hk
  have := (qV.1 hq).2
  rw [h] at this; cases this
 refine fun R r => ⟨?_, h2 R r⟩
 revert R
 induction D with
 | nil => intro R _; rfl
 | cons q D ih =>
   intro R h
   have ih := ih (fun R r h => q012 _ _ _ fun hk => by
    obtain ⟨q, hq, rfl⟩ := qN.1 hk
    have := (qV.1 hq).2
    rw [h] at this; cases this)
   by_cases hq : p q.1 = true
   ·rw [List.filter_cons_of_pos (by simpa using hq)]
    exact ih (Go.Ab.upd R q.1 q.2) h
   ·rw [List.filter_cons_of_neg (by simpa using hq)]
    rw [ih R h]
    show apR D R r = apR D (Go.Ab.upd R q.1 q.2) r
    refine q010 _ _ _ r (.inr ?_)
    rw [q0x1 _ _ _ _ fun e => hq (by rw [← e]; exact h)]
theorem q078 {c : CO} {W : List Nat} {K : St -> Prop} {S : St} (hk : c.heavy = true) (h : coH P n c (fun S' => K S' /\ q09v W c.dst S.roots S'.roots) S) :
  ∃ x D, K ⟨putE S.env c.dst x, apR D S.roots⟩ /\ (∀ r ∈ q0h4 D, S.roots r ≠ .free ∨ ∃ d, c.dst = some d /\ q0e0 d r) /\ (∀ r ∈ q0h4 D, (∃ d ∈ W, q0e0 d r) ∨ ∃ d, c.dst = some d /\ q0e0 d r) ∧
    ∀ (e : Nat -> A) (R : Nat -> Root) (Kc : St -> Prop), (∀ s ∈ slotsOf c.reads, e s = S.env s) -> (∀ r, S.roots r = .free ∨ R r = S.roots r) -> (∀ r ∈ q0h4 D, S.roots r = .free -> R r = .free) →
      Kc ⟨putE e c.dst x, apR D R⟩ -> coW P n c Kc ⟨e, R⟩ := by
 obtain ⟨x, D, ⟨h1, hfr⟩, h2, h3⟩ := q077 hk h
 let p : Nat -> Bool := fun r => (W.any fun d => decide (q0e0 d r)) || (match c.dst with | some d => decide (q0e0 d r) | none => false)
 have hp : ∀ r, p r = true -> (∃ d ∈ W, q0e0 d r) ∨ ∃ d, c.dst = some d /\ q0e0 d r := fun r hr => by
  simp only [p, Bool.or_eq_true, List.any_eq_true, decide_eq_true_eq] at hr
  rcases hr with hr | hr
  ·exact .inl hr
  ·right
   split at hr
   ·rename_i d hd; exact ⟨d, hd, by simpa using hr⟩
   ·cases hr
 have hp' : ∀ r, p r = false -> (∀ d ∈ W, ¬ q0e0 d r) /\ ∀ d, c.dst = some d -> ¬ q0e0 d r := fun r hr => by
  simp only [p, Bool.or_eq_false_iff, List.any_eq_false, decide_eq_true_eq] at hr
  refine ⟨hr.1, fun d hd hdr => ?_⟩
  have := hr.2
  rw [hd] at this
  simp [hdr] at this
 have same : ∀ R : Nat -> Root, (∀ r, S.roots r = .free ∨ R r = S.roots r) -> apR (D.filter fun q => p q.1) R = apR D R := fun R hR => by
  funext r
  cases hpr : p r with
  | true => exact (q011 p D R r).1 hpr
  | false =>
    rw [(q011 p D R r).2 hpr]
    by_cases hr : r ∈ q0h4 D
    ·have hpp := hp' r hpr
     rcases h2 r hr with h4 | ⟨d, hd, hdr⟩
     ·rw [q010 D R S.roots r (.inl hr)]
      have := hfr r hpp.1 hpp.2
      rw [show apR D S.roots r = S.roots r from this]
      exact (hR r).resolve_left h4
     ·exact absurd hdr (hpp.2 d hd)
    ·exact (q012 D R r hr).symm
 refine ⟨x, D.filter fun q => p q.1, by rw [same S.roots fun r => .inr rfl]; exact h1, fun r hr => ?_, fun r hr => ?_, fun e R Kc he hR hf hKc => ?_⟩
 ·obtain ⟨q, hq, rfl⟩ := qN.1 hr
  exact h2 q.1 (qN.2 ⟨q, (qV.1 hq).1, rfl⟩)
 ·obtain ⟨q, hq, rfl⟩ := qN.1 hr
  exact hp _ (qV.1 hq).2
 ·rw [same R hR] at hKc
  refine h3 e R Kc (fun y hy => q08i he y hy) hR (fun r hr hfr' => ?_) hKc
  cases hpr : p r with
  | true =>
    refine hf r ?_ hfr'
    obtain ⟨q, hq, rfl⟩ := qN.1 hr
    exact qN.2 ⟨q, qV.2 ⟨hq, hpr⟩, rfl⟩
  | false =>
    rcases h2 r hr with h4 | ⟨d, hd, hdr⟩
    ·exact absurd hfr' h4
    ·exact absurd hdr ((hp' r hpr).2 d hd)

theorem q0x9 {k : DK} {c : CO} {K : St -> Prop} (hk : (!k.isH || c.heavy) = true) (hsee : q0qw k c.dst = true) (h : valD P n k c K S) :
  ∃ x D, K ⟨putE S.env c.dst x, apR D S.roots⟩ /\ (∀ r ∈ q0h4 D, k.mask S.roots r ≠ .free ∨ ∃ d, c.dst = some d /\ q0e0 d r) /\ (k.isR = true -> D = []) /\ (k.isC = true -> ∀ r ∈ q0h4 D, ∃ d, c.dst = some d /\ q0e0 d r) /\ (∀ W m, k = .h (some W) m -> ∀ r ∈ q0h4 D, (∃ d ∈ W, q0e0 d r) ∨ ∃ d, c.dst = some d /\ q0e0 d r) ∧
    ∀ (e : Nat -> A) (R : Nat -> Root) (Kc : St -> Prop), (∀ s ∈ slotsOf c.reads, e s = S.env s) -> (∀ r, k.mask S.roots r = .free ∨ R r = k.mask S.roots r) -> (∀ r ∈ q0h4 D, k.mask S.roots r = .free -> R r = .free) →
      Kc ⟨putE e c.dst x, apR D R⟩ -> coW P n c Kc ⟨e, R⟩ := by
 cases k with
 | h w m =>
   have hk' : c.heavy = true := by simpa [DK.isH] using hk
   match w, m, hsee, h with
   | none, [], _, h =>
     obtain ⟨x, D, h1, h2, h3⟩ := q077 hk' (show coH P n c K S from h)
     exact ⟨x, D, h1, h2, fun h => by simp [DK.isR] at h, fun h => by simp [DK.isC] at h, fun W m h => (by cases h), fun e R Kc he hR hf hKc => h3 e R Kc (fun y hy => q08i he y hy) hR hf hKc⟩
   | some W, [], _, h =>
     obtain ⟨x, D, h1, h2, h3, h4⟩ := q078 hk' (show coH P n c (fun S' => K S' /\ q09v W c.dst S.roots S'.roots) S from h)
     exact ⟨x, D, h1, h2, fun h => by simp [DK.isR] at h, fun h => by simp [DK.isC] at h, fun W' m h => (by cases h; exact h3), h4⟩
   | none, _ :: _, _, h => exact (show False from h).elim
   | some W, d0 :: m, hsee, h =>
     have hsee' : (∀ d ∈ d0 :: m, d < 1000) /\ ∀ d, c.dst = some d -> d < 1000 /\ d ∉ d0 :: m := by
      simp only [q0qw, qM, rO, decide_eq_true_eq] at hsee
      refine ⟨hsee.2, fun d hd => ?_⟩
      have := hsee.1
      rw [hd] at this
      simp only [qM, decide_eq_true_eq, Bool.not_eq_true'] at this
      exact ⟨this.1, fun hm => by rw [List.contains_iff_mem.2 hm] at this; cases this.2⟩
     obtain ⟨x, D, h1, h2, h3, h4⟩ := q078 (S := ⟨S.env, q0ji (d0 :: m) S.roots⟩) (K := fun S' => K ⟨S'.env, q0k5 (d0 :: m) S.roots S'.roots⟩) hk' (show coH P n c (fun S' => K ⟨S'.env, q0k5 (d0 :: m) S.roots S'.roots⟩ /\ q09v W c.dst (q0ji (d0 :: m) S.roots) S'.roots) ⟨S.env, q0ji (d0 :: m) S.roots⟩ from h)
     refine ⟨x, D, ?_, h2, fun h => by simp [DK.isR] at h, fun h => by simp [DK.isC] at h, fun W' m h => (by cases h; exact h3), h4⟩
     simp only [] at h1
     rw [q0k6 hsee'.1 hsee'.2 h2] at h1
     exact h1
 | r all m =>
   have h : coV P n c S.ev ⟨S.env, if all then fun _ => .free else q0ji m S.roots⟩ (putD S c.dst K) := h
   obtain ⟨x, hK, hall⟩ := q07f h
   refine ⟨x, [], hK, fun r hr => by simp [q0h4] at hr, fun _ => rfl, fun h => by simp [DK.isC] at h, fun W m h => (by cases h), fun e R Kc he hR hf hKc => ?_⟩
   cases hd : c.dst with
   | none => cases c <;> simp only [CO.dst, reduceCtorEq] at hd <;> simp only [coV] at h <;> (try subst hd) <;> exact h.elim
   | some d =>
     refine q07h hd ?_
     refine q07e (ρ := S.ev) (fun y hy => q08i (R := R) (R' := S.roots) he y hy) ?_
     refine q07g (e := S.env) (M := if all then fun _ => .free else q0ji m S.roots) hR (hall _ ?_)
     rw [hd] at hKc; exact hKc
 | c all m =>
   obtain ⟨d, x, D, h1, h2, h3, h4, h5⟩ := q06z (h : coC P n all m c K S)
   exact ⟨x, D, h3, h4, fun h => by simp [DK.isR] at h, fun _ r hr => ⟨d, h1, h2 r hr⟩, fun W m h => (by cases h), fun e R Kc he hR hf hKc => h5 e R Kc (fun y hy => q08i he y hy) hR hf hKc⟩

theorem q0g5 {k : DK} {c : CI} {K : St -> Prop} (hok : q0g6 (k, c) = true) (h : q0g3 P n k c K S) :
  ∃ x D, K ⟨putE S.env c.dst x, apR D S.roots⟩ /\ LocAt P n k c S x D := by
 cases c with
 | o c =>
   simp only [q0g6, qM] at hok
   obtain ⟨x, D, h1, h2, h3, h4, h5, h6⟩ := q0x9 hok.1 hok.2 h
   exact ⟨x, D, h1, h2, h3, h4, h5, h6⟩
 | g s want d c =>
   simp only [q0g6, qM, beq_iff_eq] at hok
   obtain ⟨⟨hk, hsee⟩, hd⟩ := hok
   simp only [q0g3] at h
   unfold q0dc at h
   split at h
   ·rename_i b hb
    by_cases hbw : b = want
    ·have h1 := h.1 hbw
     rw [q08g _ _ _ (by rw [hb, hbw])] at h1
     obtain ⟨x, D, h2, h3, h4, h5, h7, h6⟩ := q0x9 hk hsee h1
     refine ⟨x, D, by simp only [CI.dst, hd]; exact h2, by simp only [CI.dst, hd]; exact h3, h4, by simp only [CI.dst, hd]; exact h5, by simp only [CI.dst, hd]; exact h7, fun e R Kc he hR hf hKc => ?_⟩
     have hes : e s = .t (.v (.bool b)) := (he s (by simp [CI.reads])).trans hb
     simp only [opsW]
     unfold q0dc
     simp only [hes]
     refine ⟨fun _ => ?_, fun e' => absurd (hbw.symm.trans e') (by cases want <;> simp)⟩
     rw [q08g _ _ _ (by rw [hes, hbw])]
     refine h6 e R _ (fun s' hs' => he s' (by simp only [CI.reads, qO]; exact .inr hs')) hR hf ?_
     simp only [CI.dst, hd] at hKc
     exact hKc
    ·have e' : b = !want := by cases b <;> cases want <;> simp_all
     have h1 := h.2 e'
     rw [q08g _ _ _ (by rw [hb, e'])] at h1
     refine ⟨q0ro, [], by cases d <;> exact h1, fun r hr => by simp [q0h4] at hr, fun _ => rfl, fun _ r hr => by simp [q0h4] at hr, fun _ _ _ r hr => by simp [q0h4] at hr, fun e R Kc he hR hf hKc => ?_⟩
     have hes : e s = .t (.v (.bool b)) := (he s (by simp [CI.reads])).trans hb
     simp only [opsW]
     unfold q0dc
     simp only [hes]
     refine ⟨fun h => absurd h hbw, fun _ => ?_⟩
     rw [q08g _ _ _ (by rw [hes, e'])]
     cases d <;> exact hKc
   ·rename_i xs hb
    refine ⟨q0ro, [], by cases d <;> exact h, fun r hr => by simp [q0h4] at hr, fun _ => rfl, fun _ r hr => by simp [q0h4] at hr, fun _ _ _ r hr => by simp [q0h4] at hr, fun e R Kc he hR hf hKc => ?_⟩
    have hes : e s = .t (.v (.tuple xs)) := (he s (by simp [CI.reads])).trans hb
    simp only [opsW]
    unfold q0dc
    simp only [hes]
    cases d <;> exact hKc
   ·exact h.elim

def q08b (l : List (DK × CI)) (i : Nat) : Option Nat := (l[i]?).bind fun p => p.2.dst

def q08c (l : List (DK × CI)) (v : Nat -> A) (e : Nat -> A) : Nat -> Nat -> A
 | 0 => e
 | i + 1 => putE (q08c l v e i) (q08b l i) (v i)

theorem q08d {p : DK × CI} {l : List (DK × CI)} {v : Nat -> A} {e : Nat -> A} : ∀ i, q08c (p :: l) v e (i + 1) = q08c l (fun i => v (i + 1)) (putE e p.2.dst (v 0)) i
 | 0 => rfl
 | i + 1 => by
   have ih := q08d (p := p) (l := l) (v := v) (e := e) i
   show putE (q08c (p :: l) v e (i + 1)) (q08b (p :: l) (i + 1)) (v (i + 1)) = _
   rw [ih]; rfl

def rtD (Dl : Nat -> List (Nat × Root)) (R0 : Nat -> Root) (D : Nat -> Bool) : Nat -> Nat -> Root
 | 0 => R0
 | k + 1 => if D k then apR (Dl k) (rtD Dl R0 D k) else rtD Dl R0 D k
def rtA (Dl : Nat -> List (Nat × Root)) (R0 : Nat -> Root) : Nat -> Nat -> Root := rtD Dl R0 fun _ => true
theorem q0qg (Dl : Nat -> List (Nat × Root)) (R0 : Nat -> Root) (k : Nat) : rtA Dl R0 (k + 1) = apR (Dl k) (rtA Dl R0 k) := rfl
theorem q0qf (D0 : List (Nat × Root)) (Dl : Nat -> List (Nat × Root)) (R0 : Nat -> Root) : ∀ i, rtA (fun i => match i with | 0 => D0 | i + 1 => Dl i) R0 (i + 1) = rtA Dl (apR D0 R0) i
 | 0 => rfl
 | i + 1 => by rw [q0qg, q0qf D0 Dl R0 i]; rfl

theorem q087 {K : St -> Prop} : ∀ (l : List (DK × CI)) (S : St), (∀ p ∈ l, q0g6 p = true) -> q085 P n l K S -> ∃ (v : Nat -> A) (Dl : Nat -> List (Nat × Root)),
  (∀ i (h : i < l.length), LocAt P n l[i].1 l[i].2 ⟨q08c l v S.env i, rtA Dl S.roots i⟩ (v i) (Dl i)) /\ K ⟨q08c l v S.env l.length, rtA Dl S.roots l.length⟩
 | [], S, _, h => ⟨fun _ => .t .any, fun _ => [], fun i h => absurd h (by simp), h⟩
 | (k, c) :: l, S, hok, h => by
   obtain ⟨x, D0, h2, h3⟩ := q0g5 (hok (k, c) (by simp)) (h : q0g3 P n k c (q085 P n l K) S)
   obtain ⟨v, Dl, h5, h6⟩ := q087 l _ (fun p hp => hok p (rH _ hp)) h2
   refine ⟨fun i => match i with | 0 => x | i + 1 => v i, fun i => match i with | 0 => D0 | i + 1 => Dl i, fun i hi => ?_, ?_⟩
   ·cases i with
    | zero => exact h3
    | succ i =>
      have hi' : i < l.length := by simpa using hi
      rw [q08d, q0qf]
      exact h5 i hi'
   ·simp only [List.length_cons]
    rw [q08d, q0qf]
    exact h6

-- the order
def kAt (l : List (DK × CI)) (i : Nat) : DK := ((l[i]?).map (·.1)).getD kE
def rdAt (l : List (DK × CI)) (i : Nat) : List Nat := ((l[i]?).map fun p => p.2.reads).getD []

def hidB (m : List Nat) (d : Option Nat) (w : Option (List Nat)) : Bool := match w with | some W => W.all m.contains && (match d with | some d => m.contains d | none => true) | none => false
def q0nm (l : List (DK × CI)) (i j : Nat) : Bool :=
 match kAt l i, kAt l j with
 | .r _ _, .r _ _ => true
 | .r _ _, .c _ _ => true
 | .r all m, .h w _ => all || hidB m (q08b l j) w
 | .c _ _, .r all m => all || (match q08b l i with | some d => m.contains d | none => true)
 | .c _ _, .c all m => all || (match q08b l i with | some d => m.contains d | none => true)
 | .c all m, .h w m' => (match q08b l i with | some d => m'.contains d | none => true) && (all || hidB m (q08b l j) w)
 | .h w _, .r all m => all || hidB m (q08b l i) w
 | .h w _, .c all m => all || hidB m (q08b l i) w
 | .h w m, .h w' m' => hidB m (q08b l j) w' && hidB m' (q08b l i) w

def AtD (l : List (DK × CI)) (v : Nat -> A) (Dl : Nat -> List (Nat × Root)) (R0 : Nat -> Root) (e0 : Nat -> A) (D : Nat -> Bool) (S : St) : Prop :=
 (∀ s, (∀ j, j < l.length -> D j = true -> q08b l j = some s -> S.env s = v j) /\ ((∀ j, j < l.length -> D j = true -> q08b l j ≠ some s) -> S.env s = e0 s)) /\ S.roots = rtD Dl R0 D l.length

def Ord (l : List (DK × CI)) (D : Nat -> Bool) (i : Nat) : Prop :=
 ∀ j, j < l.length -> j ≠ i -> (j < i /\ D j = true) ∨ (i < j /\ ¬ D j = true) ∨ ((∀ s ∈ rdAt l i, q08b l j ≠ some s) /\ (j < i -> q0nm l j i = true) /\ (i < j -> q0nm l i j = true))

theorem q08e {l : List (DK × CI)} {v : Nat -> A} {e0 : Nat -> A} (hd : ∀ i j, i < l.length -> j < l.length -> i ≠ j -> ∀ s, q08b l i = some s -> q08b l j ≠ some s) (s : Nat) : ∀ i, i <= l.length →
  (∀ j, j < i -> q08b l j = some s -> q08c l v e0 i s = v j) /\ ((∀ j, j < i -> q08b l j ≠ some s) -> q08c l v e0 i s = e0 s)
 | 0, _ => ⟨fun j h => absurd h (by omega), fun _ => rfl⟩
 | i + 1, hi => by
   obtain ⟨h1, h2⟩ := q08e (v := v) (e0 := e0) hd s i (by omega)
   simp only [q08c]
   by_cases hs : q08b l i = some s
   ·have hself : putE (q08c l v e0 i) (q08b l i) (v i) s = v i := by rw [hs]; simp [putE, q0x2]
    refine ⟨fun j hj hjs => ?_, fun h => absurd hs (h i (by omega))⟩
    by_cases hji : j = i
    ·subst hji; exact hself
    ·exact absurd hs (hd j i (by omega) (by omega) hji s hjs)
   ·have hoth : putE (q08c l v e0 i) (q08b l i) (v i) s = q08c l v e0 i s := by
     cases hx : q08b l i with
     | none => rfl
     | some d => exact q0x1 _ _ _ _ fun e => hs (by rw [hx, e])
    rw [hoth]
    refine ⟨fun j hj hjs => ?_, fun h => h2 fun j hj => h j (by omega)⟩
    by_cases hji : j = i
    ·subst hji; exact absurd hjs hs
    ·exact h1 j (by omega) hjs

structure Chg (l : List (DK × CI)) (Dl : Nat -> List (Nat × Root)) (R0 : Nat -> Root) : Prop where
 keys : ∀ i, i < l.length -> ∀ r ∈ q0h4 (Dl i), (kAt l i).mask (rtA Dl R0 i) r ≠ .free ∨ ∃ d, q08b l i = some d /\ q0e0 d r
 isR : ∀ i, i < l.length -> (kAt l i).isR = true -> Dl i = []
 isC : ∀ i, i < l.length -> (kAt l i).isC = true -> ∀ r ∈ q0h4 (Dl i), ∃ d, q08b l i = some d /\ q0e0 d r
 isH : ∀ i, i < l.length -> ∀ W m, kAt l i = .h (some W) m -> ∀ r ∈ q0h4 (Dl i), (∃ d ∈ W, q0e0 d r) ∨ ∃ d, q08b l i = some d /\ q0e0 d r
 dst : ∀ i j, i < l.length -> j < l.length -> i ≠ j -> ∀ s, q08b l i = some s -> q08b l j ≠ some s
 small : ∀ i, i < l.length -> (kAt l i).isR = false -> ∀ d, q08b l i = some d -> d < 1000
 start : ∀ i, i < l.length -> (kAt l i).isC = true -> ∀ d, q08b l i = some d -> ∀ r, q0e0 d r -> R0 r = .free
 see : ∀ i, i < l.length -> q0qw (kAt l i) (q08b l i) = true

theorem q0jo {w : Option (List Nat)} {m : List Nat} {d : Nat} (h : q0qw (.h w m) (some d) = true) (R : Nat -> Root) {r : Nat} (hr : q0e0 d r) : q0ji m R r = R r := by
 cases m with
 | nil => rfl
 | cons d0 m =>
   cases w with
   | none => exact (by cases h)
   | some W =>
     simp only [q0qw, qM, rO, decide_eq_true_eq, Bool.not_eq_true'] at h
     obtain ⟨⟨h1, h2⟩, h3⟩ := h
     unfold q0ji
     rw [if_neg]
     intro hc
     obtain ⟨k, hk, hkr⟩ := List.any_eq_true.1 hc
     have hk1 := h3 k hk
     have hne : k ≠ d := fun e => by rw [e] at hk; rw [List.contains_iff_mem.2 hk] at h2; cases h2
     simp only [Bool.or_eq_true, decide_eq_true_eq] at hkr
     rcases hr with hr | hr <;> rcases hkr with hkr | hkr <;> omega

theorem q0jq {k : DK} {R : Nat -> Root} {r : Nat} (h : k.mask R r ≠ .free) : k.mask R r = R r /\ R r ≠ .free := by
 cases k with
 | r all m =>
   cases all
   ·have := (q0jn (h : q0ji m R r ≠ .free)).1
    exact ⟨this, by rw [← this]; exact h⟩
   ·exact absurd rfl h
 | c all m =>
   cases all
   ·have := (q0jn (h : q0ji m R r ≠ .free)).1
    exact ⟨this, by rw [← this]; exact h⟩
   ·exact absurd rfl h
 | h w m =>
   have := (q0jn (h : q0ji m R r ≠ .free)).1
   exact ⟨this, by rw [← this]; exact h⟩

section
variable {l : List (DK × CI)} {Dl : Nat -> List (Nat × Root)} {R0 : Nat -> Root}

theorem Chg.apart (F : Chg l Dl R0) {i j d d' r : Nat} (hi : i < l.length) (hj : j < l.length) (hij : i ≠ j) (ki : (kAt l i).isR = false) (kj : (kAt l j).isR = false) (h : q08b l i = some d) (h' : q08b l j = some d') (hr : q0e0 d r) (hr' : q0e0 d' r) : False := by
 have h1 := F.small i hi ki d h
 have h2 := F.small j hj kj d' h'
 have hne : d ≠ d' := fun e => F.dst i j hi hj hij d h (by rw [h', e])
 rcases hr with rfl | hr <;> rcases hr' with rfl | hr'
 ·exact hne rfl
 ·omega
 ·omega
 ·omega

theorem Chg.isC_not (h : (k : DK) -> True) {k : DK} (hk : k.isC = true) : k.isR = false := by cases k <;> simp [DK.isC, DK.isR] at hk ⊢

theorem Chg.fresh (F : Chg l Dl R0) {j d : Nat} (hj : j < l.length) (hc : (kAt l j).isC = true) (hd : q08b l j = some d) {r : Nat} (hr : q0e0 d r) : ∀ i, i <= j -> rtA Dl R0 i r = .free
 | 0, _ => F.start j hj hc d hd r hr
 | i + 1, hi => by
   have ih := F.fresh hj hc hd hr i (by omega)
   rw [q0qg, q012 _ _ _ fun hk => ?_]
   ·exact ih
   ·rcases F.keys i (by omega) r hk with h | ⟨d', h1, h2⟩
    ·exact (q0jq h).2 ih
    ·cases hr' : (kAt l i).isR with
     | true => rw [F.isR i (by omega) hr'] at hk; simp [q0h4] at hk
     | false => exact F.apart (by omega) hj (by omega) hr' (Chg.isC_not (fun _ => trivial) hc) h1 hd h2 hr

theorem Chg.hid (F : Chg l Dl R0) {k : Nat} (hk : k < l.length) {w : Option (List Nat)} {mk : List Nat} (hkk : kAt l k = .h w mk) {m' : List Nat} {R : Nat -> Root} {r : Nat} (hkey : r ∈ q0h4 (Dl k)) (hne : q0ji m' R r ≠ .free) (hp : hidB m' (q08b l k) w = true) : False := by
 cases w with
 | none => simp [hidB] at hp
 | some W =>
   simp only [hidB, qM, rO] at hp
   have hm := (q0jn hne).2
   rcases F.isH k hk W mk hkk r hkey with ⟨d, hd, hdr⟩ | ⟨d, hd, hdr⟩
   ·exact hm d (by simpa using hp.1 d hd) hdr
   ·have := hp.2
    rw [hd] at this
    exact hm d (by simpa using this) hdr
theorem q0ds {m : List Nat} {d : Nat} {w : Option (List Nat)} (h : hidB m (some d) w = true) : d ∈ m := by
 cases w with
 | none => simp [hidB] at h
 | some W =>
   simp only [hidB, qM] at h
   simpa using h.2
theorem Chg.same (F : Chg l Dl R0) {D : Nat -> Bool} {i : Nat} (hi : i < l.length) (hDi : ¬ D i = true) (ho : Ord l D i) {r : Nat} (hne : (kAt l i).mask (rtA Dl R0 i) r ≠ .free) : rtD Dl R0 D l.length r = rtA Dl R0 i r := by
 have hri := (q0jq hne).2
 have low : ∀ k, k <= i -> rtD Dl R0 D k r = rtA Dl R0 k r := by
  intro k
  induction k with
  | zero => intro _; rfl
  | succ k ih =>
    intro hk
    have ih := ih (by omega)
    rw [q0qg]
    show (if D k then apR (Dl k) (rtD Dl R0 D k) else rtD Dl R0 D k) r = _
    by_cases hD : D k = true
    ·rw [if_pos hD]; exact q010 _ _ _ r (.inr ih)
    ·rw [if_neg hD, ih, q012 _ _ _ fun hkey => ?_]
     rcases ho k (by omega) (by omega) with h | h | h
     ·exact hD h.2
     ·omega
     ·have hp := h.2.1 (by omega)
      unfold q0nm at hp
      cases hkk : kAt l k with
      | r a m => rw [F.isR k (by omega) (by rw [hkk]; rfl)] at hkey; simp [q0h4] at hkey
      | c a m =>
        obtain ⟨d, hd, hdr⟩ := F.isC k (by omega) (by rw [hkk]; rfl) r hkey
        rw [hkk, hd] at hp
        cases hki : kAt l i with
        | r a' m' =>
          rw [hki] at hp hne
          cases a' with
          | true => exact hne rfl
          | false =>
            have : d ∈ m' := by simpa using hp
            exact (q0jn (hne : q0ji m' _ r ≠ .free)).2 d this hdr
        | c a' m' =>
          rw [hki] at hp hne
          cases a' with
          | true => exact hne rfl
          | false =>
            have : d ∈ m' := by simpa using hp
            exact (q0jn (hne : q0ji m' _ r ≠ .free)).2 d this hdr
        | h w' m' =>
          rw [hki] at hp hne
          simp only [qM] at hp
          exact (q0jn (hne : q0ji m' _ r ≠ .free)).2 d (by simpa using hp.1) hdr
      | h w mk =>
        rw [hkk] at hp
        cases hki : kAt l i with
        | r a' m' =>
          rw [hki] at hp hne
          cases a' with
          | true => exact hne rfl
          | false => exact F.hid (by omega) hkk hkey (hne : q0ji m' _ r ≠ .free) (by simpa using hp)
        | c a' m' =>
          rw [hki] at hp hne
          cases a' with
          | true => exact hne rfl
          | false => exact F.hid (by omega) hkk hkey (hne : q0ji m' _ r ≠ .free) (by simpa using hp)
        | h w' m' =>
          rw [hki] at hp hne
          simp only [qM] at hp
          exact F.hid (by omega) hkk hkey (hne : q0ji m' _ r ≠ .free) hp.2
 have high : ∀ c, i + c <= l.length -> rtD Dl R0 D (i + c) r = rtD Dl R0 D i r := by
  intro c
  induction c with
  | zero => intro _; rfl
  | succ c ih =>
    intro hc
    have ih := ih (by omega)
    show (if D (i + c) then apR (Dl (i + c)) (rtD Dl R0 D (i + c)) else rtD Dl R0 D (i + c)) r = _
    by_cases hD : D (i + c) = true
    ·rw [if_pos hD, q012 _ _ _ fun hkey => ?_]
     ·exact ih
     ·have hne' : i + c ≠ i := fun e => hDi (by rw [← e]; exact hD)
      rcases ho (i + c) (by omega) hne' with h | h | h
      ·omega
      ·exact h.2 hD
      ·have hp := h.2.2 (by omega)
       unfold q0nm at hp
       cases hkk : kAt l (i + c) with
       | r a m => rw [F.isR (i + c) (by omega) (by rw [hkk]; rfl)] at hkey; simp [q0h4] at hkey
       | c a m =>
         obtain ⟨d, hd, hdr⟩ := F.isC (i + c) (by omega) (by rw [hkk]; rfl) r hkey
         exact hri (F.fresh (by omega) (by rw [hkk]; rfl) hd hdr i (by omega))
       | h w mk =>
         rw [hkk] at hp
         cases hki : kAt l i with
         | r a' m' =>
           rw [hki] at hp hne
           cases a' with
           | true => exact hne rfl
           | false => exact F.hid (by omega) hkk hkey (hne : q0ji m' _ r ≠ .free) (by simpa using hp)
         | c a' m' =>
           rw [hki] at hp hne
           simp only [qM] at hp
           cases a' with
           | true => exact hne rfl
           | false => exact F.hid (by omega) hkk hkey (hne : q0ji m' _ r ≠ .free) (by simpa using hp.2)
         | h w' m' =>
           rw [hki] at hp hne
           simp only [qM] at hp
           exact F.hid (by omega) hkk hkey (hne : q0ji m' _ r ≠ .free) hp.1
    ·rw [if_neg hD]; exact ih
 have := high (l.length - i) (by omega)
 rw [show i + (l.length - i) = l.length by omega] at this
 rw [this, low i (qR _)]

theorem Chg.free (F : Chg l Dl R0) {D : Nat -> Bool} {i : Nat} (hi : i < l.length) (hDi : ¬ D i = true) (ho : Ord l D i) {r : Nat} (hk : r ∈ q0h4 (Dl i)) (hf : (kAt l i).mask (rtA Dl R0 i) r = .free) : rtD Dl R0 D l.length r = .free := by
 obtain ⟨d, hd, hdr⟩ := (F.keys i hi r hk).resolve_left (fun h => h hf)
 have nR : (kAt l i).isR = false := by
  cases h : (kAt l i).isR with
  | true => rw [F.isR i hi h] at hk; simp [q0h4] at hk
  | false => rfl
 have base : rtA Dl R0 0 r = .free ∨ True := .inr trivial
 -- no other item that has run touches r
 have untouched : ∀ k, k < l.length -> D k = true -> r ∈ q0h4 (Dl k) -> k < i /\ (kAt l i).isC = false := by
  intro k hkl hD hkey
  have hki : k ≠ i := fun e => hDi (e ▸ hD)
  have nRk : (kAt l k).isR = false := by
   cases h : (kAt l k).isR with
   | true => rw [F.isR k hkl h] at hkey; simp [q0h4] at hkey
   | false => rfl
  rcases F.keys k hkl r hkey with h | ⟨d', h1, h2⟩
  ·have hrk := (q0jq h).2
   rcases qH k i with hlt | hge
   ·refine ⟨hlt, ?_⟩
    cases hc : (kAt l i).isC with
    | false => rfl
    | true => exact absurd (F.fresh hi hc hd hdr k (by omega)) hrk
   ·rcases ho k hkl hki with h' | h' | h'
    ·omega
    ·exact absurd hD h'.2
    ·have hp := h'.2.2 (by omega)
     unfold q0nm at hp
     cases hkk : kAt l k with
     | r a m => rw [hkk] at nRk; cases nRk
     | c a m =>
       obtain ⟨d', h1, h2⟩ := F.isC k hkl (by rw [hkk]; rfl) r hkey
       exact (F.apart hi hkl (Ne.symm hki) nR nRk hd h1 hdr h2).elim
     | h w mk =>
       rw [hkk] at hp h
       have hmk := (q0jn (h : q0ji mk _ r ≠ .free)).2
       cases hki' : kAt l i with
       | r a' m' => rw [hki'] at nR; cases nR
       | c a' m' =>
         rw [hki', hd] at hp
         simp only [qM] at hp
         exact (hmk d (by simpa using hp.1) hdr).elim
       | h w' m' =>
         rw [hki', hd] at hp
         simp only [qM] at hp
         exact (hmk d (q0ds hp.2) hdr).elim
  ·exact (F.apart hi hkl (Ne.symm hki) nR nRk hd h1 hdr h2).elim
 cases hc : (kAt l i).isC with
 | true =>
   have : ∀ k, k <= l.length -> rtD Dl R0 D k r = .free := by
    intro k
    induction k with
    | zero => intro _; exact F.start i hi hc d hd r hdr
    | succ k ih =>
      intro hkl
      show (if D k then apR (Dl k) (rtD Dl R0 D k) else rtD Dl R0 D k) r = _
      by_cases hD : D k = true
      ·rw [if_pos hD, q012 _ _ _ fun hkey => by have := (untouched k (by omega) hD hkey).2; rw [hc] at this; cases this]
       exact ih (by omega)
      ·rw [if_neg hD]; exact ih (by omega)
   exact this _ (qR _)
 | false =>
   obtain ⟨w0, m0, hh⟩ : ∃ w m, kAt l i = .h w m := by
    cases h : kAt l i with
    | r a m => rw [h] at nR; cases nR
    | c a m => rw [h] at hc; cases hc
    | h w m => exact ⟨w, m, rfl⟩
   rw [hh] at hf
   have hf : rtA Dl R0 i r = .free := by
    have hs := F.see i hi
    rw [hh, hd] at hs
    rw [← q0jo hs (rtA Dl R0 i) hdr]; exact hf
   have low : ∀ k, k <= i -> rtD Dl R0 D k r = rtA Dl R0 k r := by
    intro k
    induction k with
    | zero => intro _; rfl
    | succ k ih =>
      intro hk'
      have ih := ih (by omega)
      rw [q0qg]
      show (if D k then apR (Dl k) (rtD Dl R0 D k) else rtD Dl R0 D k) r = _
      by_cases hD : D k = true
      ·rw [if_pos hD]; exact q010 _ _ _ r (.inr ih)
      ·rw [if_neg hD, ih, q012 _ _ _ fun hkey => ?_]
       rcases ho k (by omega) (by omega) with h | h | h
       ·exact hD h.2
       ·omega
       ·have hp := h.2.1 (by omega)
        unfold q0nm at hp
        rw [hh] at hp
        cases hkk : kAt l k with
        | r a m => rw [F.isR k (by omega) (by rw [hkk]; rfl)] at hkey; simp [q0h4] at hkey
        | c a m =>
          obtain ⟨d', h1, h2⟩ := F.isC k (by omega) (by rw [hkk]; rfl) r hkey
          exact (F.apart hi (by omega) (by omega) nR (by rw [hkk]; rfl) hd h1 hdr h2).elim
        | h w mk =>
          rw [hkk, hd] at hp
          simp only [qM] at hp
          rcases F.keys k (by omega) r hkey with h1 | ⟨d', h1, h2⟩
          ·rw [hkk] at h1
           exact (q0jn (h1 : q0ji mk _ r ≠ .free)).2 d (q0ds hp.1) hdr
          ·exact F.apart hi (by omega) (by omega) nR (by rw [hkk]; rfl) hd h1 hdr h2
   have high : ∀ c, i + c <= l.length -> rtD Dl R0 D (i + c) r = rtD Dl R0 D i r := by
    intro c
    induction c with
    | zero => intro _; rfl
    | succ c ih =>
      intro hc'
      have ih := ih (by omega)
      show (if D (i + c) then apR (Dl (i + c)) (rtD Dl R0 D (i + c)) else rtD Dl R0 D (i + c)) r = _
      by_cases hD : D (i + c) = true
      ·rw [if_pos hD, q012 _ _ _ fun hkey => by have := (untouched (i + c) (by omega) hD hkey).1; omega]
       exact ih
      ·rw [if_neg hD]; exact ih
   have := high (l.length - i) (by omega)
   rw [show i + (l.length - i) = l.length by omega] at this
   rw [this, low i (qR _)]
   exact hf

theorem Chg.next (F : Chg l Dl R0) {D : Nat -> Bool} {i : Nat} (hi : i < l.length) (hDi : ¬ D i = true) (ho : Ord l D i) : apR (Dl i) (rtD Dl R0 D l.length) = rtD Dl R0 (fun j => D j || j == i) l.length := by
 funext r
 by_cases hr : r ∈ q0h4 (Dl i)
 ·have nR : (kAt l i).isR = false := by
   cases h : (kAt l i).isR with
   | true => rw [F.isR i hi h] at hr; simp [q0h4] at hr
   | false => rfl
  have high : ∀ c, i + 1 + c <= l.length -> rtD Dl R0 (fun j => D j || j == i) (i + 1 + c) r = apR (Dl i) (rtD Dl R0 D l.length) r := by
   intro c
   induction c with
   | zero =>
     intro _
     show (if (D i || i == i) = true then apR (Dl i) _ else _) r = _
     rw [if_pos (by simp)]
     exact q010 _ _ _ r (.inl hr)
   | succ c ih =>
     intro hc
     have ih := ih (by omega)
     show (if (D (i + 1 + c) || (i + 1 + c) == i) = true then apR (Dl (i + 1 + c)) (rtD Dl R0 (fun j => D j || j == i) (i + 1 + c)) else rtD Dl R0 (fun j => D j || j == i) (i + 1 + c)) r = _
     have e : ((i + 1 + c) == i) = false := by simp; omega
     rw [e, Bool.or_false]
     by_cases hD : D (i + 1 + c) = true
     ·rw [if_pos hD, q012 _ _ _ fun hkey => ?_]
      ·exact ih
      ·rcases ho (i + 1 + c) (by omega) (by omega) with h | h | h
       ·omega
       ·exact h.2 hD
       ·have hp := h.2.2 (by omega)
        unfold q0nm at hp
        cases hkk : kAt l (i + 1 + c) with
        | r a m => rw [F.isR (i + 1 + c) (by omega) (by rw [hkk]; rfl)] at hkey; simp [q0h4] at hkey
        | c a m =>
          obtain ⟨d, hd, hdr⟩ := F.isC (i + 1 + c) (by omega) (by rw [hkk]; rfl) r hkey
          rcases F.keys i hi r hr with h' | ⟨d', h1, h2⟩
          ·exact (q0jq h').2 (F.fresh (by omega) (by rw [hkk]; rfl) hd hdr i (by omega))
          ·exact F.apart hi (show i + 1 + c < l.length by omega) (by omega) nR (by rw [hkk]; rfl) h1 hd h2 hdr
        | h w mk =>
          rw [hkk] at hp
          rcases F.keys (i + 1 + c) (by omega) r hkey with h1 | ⟨d', h1, h2⟩
          ·rw [hkk] at h1
           have hmk := (q0jn (h1 : q0ji mk _ r ≠ .free)).2
           cases hki : kAt l i with
           | r a' m' => rw [hki] at nR; cases nR
           | c a' m' =>
             obtain ⟨d, hd, hdr⟩ := F.isC i hi (by rw [hki]; rfl) r hr
             rw [hki, hd] at hp
             simp only [qM] at hp
             exact hmk d (by simpa using hp.1) hdr
           | h w' m' =>
             rw [hki] at hp
             simp only [qM] at hp
             exact F.hid hi hki hr (h1 : q0ji mk _ r ≠ .free) hp.2
          ·rcases F.keys i hi r hr with h3 | ⟨d, h3, h4⟩
           ·cases hki : kAt l i with
            | r a' m' => rw [hki] at nR; cases nR
            | c a' m' =>
              obtain ⟨d, hd, hdr⟩ := F.isC i hi (by rw [hki]; rfl) r hr
              exact F.apart hi (show i + 1 + c < l.length by omega) (by omega) nR (by rw [hkk]; rfl) hd h1 hdr h2
            | h w' m' =>
              rw [hki, h1] at hp
              rw [hki] at h3
              simp only [qM] at hp
              exact (q0jn (h3 : q0ji m' _ r ≠ .free)).2 d' (q0ds hp.1) h2
           ·exact F.apart hi (show i + 1 + c < l.length by omega) (by omega) nR (by rw [hkk]; rfl) h3 h1 h4 h2
     ·rw [if_neg hD]; exact ih
  have := high (l.length - (i + 1)) (by omega)
  rw [show i + 1 + (l.length - (i + 1)) = l.length by omega] at this
  exact this.symm
 ·rw [q012 _ _ _ hr]
  have : ∀ k, rtD Dl R0 (fun j => D j || j == i) k r = rtD Dl R0 D k r := by
   intro k
   induction k with
   | zero => rfl
   | succ k ih =>
     show (if (D k || k == i) = true then apR (Dl k) (rtD Dl R0 (fun j => D j || j == i) k) else rtD Dl R0 (fun j => D j || j == i) k) r = (if D k then apR (Dl k) (rtD Dl R0 D k) else rtD Dl R0 D k) r
     by_cases hk : k = i
     ·subst hk
      rw [if_pos (by simp), if_neg hDi, q012 _ _ _ hr, ih]
     ·have e : (k == i) = false := by simp [hk]
      rw [e, Bool.or_false]
      by_cases hD : D k = true
      ·rw [if_pos hD, if_pos hD]; exact q010 _ _ _ r (.inr ih)
      ·rw [if_neg hD, if_neg hD, ih]
  rw [this]

theorem AtD.step {v : Nat -> A} {e0 : Nat -> A} {D : Nat -> Bool} (F : Chg l Dl R0) {i : Nat} (hi : i < l.length) (hself : ∀ s ∈ rdAt l i, q08b l i ≠ some s) (hDi : ¬ D i = true) (ho : Ord l D i) (hAt : AtD l v Dl R0 e0 D S) :
  (∀ s ∈ rdAt l i, S.env s = q08c l v e0 i s) /\ (∀ r, (kAt l i).mask (rtA Dl R0 i) r = .free ∨ S.roots r = (kAt l i).mask (rtA Dl R0 i) r) /\ (∀ r ∈ q0h4 (Dl i), (kAt l i).mask (rtA Dl R0 i) r = .free -> S.roots r = .free) ∧
   AtD l v Dl R0 e0 (fun j => D j || j == i) ⟨putE S.env (q08b l i) (v i), apR (Dl i) S.roots⟩ := by
 have hd := F.dst
 obtain ⟨hE, hR⟩ := hAt
 refine ⟨fun s hs => ?_, fun r => ?_, fun r hr hf => ?_, fun s => ?_, ?_⟩
 ·obtain ⟨ha, hb⟩ := q08e (v := v) (e0 := e0) hd s i (by omega)
  obtain ⟨hc, hdd⟩ := hE s
  by_cases hex : ∃ j, j < l.length /\ q08b l j = some s
  ·obtain ⟨j, hj, hjs⟩ := hex
   have hji : j ≠ i := fun e => hself s hs (e ▸ hjs)
   rcases ho j hj hji with h | h | h
   ·rw [hc j hj h.2 hjs, ha j h.1 hjs]
   ·rw [hdd fun j' hj' hD' hs' => ?_, hb fun j' hj' hs' => ?_]
    ·by_cases e : j' = j
     ·rw [e] at hj'; omega
     ·exact hd j' j (by omega) hj e s hs' hjs
    ·by_cases e : j' = j
     ·rw [e] at hD'; exact h.2 hD'
     ·exact hd j' j (by omega) hj e s hs' hjs
   ·exact absurd hjs (h.1 s hs)
  ·rw [hdd fun j hj _ hjs => hex ⟨j, hj, hjs⟩, hb fun j hj hjs => hex ⟨j, by omega, hjs⟩]
 ·by_cases hne : (kAt l i).mask (rtA Dl R0 i) r = .free
  ·exact .inl hne
  ·right
   rw [hR, F.same hi hDi ho hne, (q0jq hne).1]
 ·rw [hR]; exact F.free hi hDi ho hr hf
 ·obtain ⟨hc, hdd⟩ := hE s
  by_cases hs : q08b l i = some s
  ·have e : putE S.env (q08b l i) (v i) s = v i := by rw [hs]; simp [putE, q0x2]
   refine ⟨fun j hj hD hjs => ?_, fun h => absurd hs (h i hi (by simp))⟩
   show putE S.env (q08b l i) (v i) s = v j
   rw [e]
   by_cases hji : j = i
   ·rw [hji]
   ·exact absurd hs (hd j i hj hi hji s hjs)
  ·have e : putE S.env (q08b l i) (v i) s = S.env s := by
    cases hx : q08b l i with
    | none => rfl
    | some d => exact q0x1 _ _ _ _ fun e => hs (by rw [hx, e])
   refine ⟨fun j hj hD hjs => ?_, fun h => ?_⟩
   ·show putE S.env (q08b l i) (v i) s = v j
    rw [e]
    have hD : D j = true ∨ j = i := by simpa using hD
    rcases hD with hD | rfl
    ·exact hc j hj hD hjs
    ·exact absurd hjs hs
   ·show putE S.env (q08b l i) (v i) s = e0 s
    rw [e]
    exact hdd fun j hj hD => h j hj (by simp [hD])
 ·show apR (Dl i) S.roots = _
  rw [hR]; exact F.next hi hDi ho
end
end
end Go.Ab

/- The abstract layer, part 26: the rule for a region that draws its order. -/
namespace Go.Ab

section
variable {P : Program} {n : Nat} {S : St} {X : Nat -> Prop} {w0 : World} {O0 : Fr} {a : Act} {w : World} {hs : Nat -> Option Value} {fp : Nat -> List Nat}

theorem Good.drawn (g : Good X w0 O0 n S a w hs fp) (k : Nat) : Good X w0 O0 n S a { w with drawn := k } hs fp := by
 have hk : q009 (fun b => ¬ Ob X fp b) w { w with drawn := k } := fun b cs e fz _ h => h
 exact ⟨g.size, g.defers.keep fun D _ h => h, fun i => (g.env i).mono hk (fun b h _ => h) (fun _ _ h => h), fun r => g.keepRoot r hk (fun b h _ => h) (fun _ _ h => h) rfl (fun b _ => rfl), g.disj, g.nodup, g.foreign, g.xold, g.xout, g.mine, ⟨g.hist.os, g.hist.tape, g.hist.output, g.hist.size, g.hist.block⟩, g.rooty, g.hdr, g.small, g.pin⟩

theorem q0g7 {ops : Array Oper} {i : Nat} {o : Oper} {ci : CI} {Kc : St -> Prop} {Q : Exit -> Act -> World -> Prop} (ho : ops[i]? = some o) (hc : trI P n ops o = some ci) (hW : opsW P n [ci] Kc S) (g : Good X w0 O0 n S a w hs fp) :
  wpOp P ops Q i (fun a' w' => ∃ S' hs' fp', Good X w0 O0 n S' a' w' hs' fp' /\ Kc S') a w := by
 unfold wpOp
 simp only [ho]
 simp only [trI] at hc
 split at hc
 ·rename_i co hco
  split at hc
  ·rename_i hg
   cases hc
   have hw : Region.wanted o (yielded ops a.tmps) = true := by simp [Region.wanted, hg]
   rw [if_pos hw]
   exact .inl (q0vv hco hW X w0 O0 a w hs fp g Q)
  ·rename_i j want hg
   split at hc
   ·rename_i oj hoj
    have core : ∀ s d, oj.dst = some s -> o.dst = d -> (∀ k, d = some k -> k < n) -> opsW P n [.g s want d co] Kc S →
      if Region.wanted o (yielded ops a.tmps) = true then o.wp P a w (fun a' w' => ∃ S' hs' fp', Good X w0 O0 n S' a' w' hs' fp' /\ Kc S') Q ∨ (o.asks P a w /\ LetsOut Q) else ∃ S' hs' fp', Good X w0 O0 n S' (a.put o.dst Go.undef) w hs' fp' /\ Kc S' := by
     intro s d hs' hdd hdn hW
     simp only [opsW] at hW
     unfold q0dc at hW
     split at hW
     ·rename_i b hb
      have hval := g.env s
      rw [hb] at hval
      have hval := hval.v_inv
      have ht : a.tmps[s]? = some (.bool b) := by
       rw [qC] at hval
       cases hx : a.tmps[s]? with
       | none => rw [hx] at hval; simp [undef] at hval
       | some v => rw [hx] at hval; simpa using hval
      have hy := q0xy hoj hs' ht
      by_cases hbw : b = want
      ·have hw : Region.wanted o (yielded ops a.tmps) = true := by simp [Region.wanted, hg, hy, hbw]
       rw [if_pos hw]
       have h1 := hW.1 hbw
       rw [q08g _ _ _ (by rw [hb, hbw])] at h1
       exact .inl (q0vv hco h1 X w0 O0 a w hs fp g Q)
      ·have hw : ¬ Region.wanted o (yielded ops a.tmps) = true := by simp [Region.wanted, hg, hy, hbw]
       rw [if_neg hw]
       have e' : b = !want := by cases b <;> cases want <;> simp_all
       have h1 := hW.2 e'
       rw [q08g _ _ _ (by rw [hb, e'])] at h1
       exact ⟨_, hs, fp, g.noval o.dst (fun k hk => hdn k (hdd ▸ hk)), hdd ▸ h1⟩
     ·rename_i xs hb
      have hval := g.env s
      rw [hb] at hval
      have hy := q0xz hoj hs' hval.v_inv
      have hw : ¬ Region.wanted o (yielded ops a.tmps) = true := by simp [Region.wanted, hg, hy]
      rw [if_neg hw]
      exact ⟨_, hs, fp, g.noval o.dst (fun k hk => hdn k (hdd ▸ hk)), hdd ▸ hW⟩
     ·exact hW.elim
    split at hc
    ·rename_i s d hs' hdd
     split at hc
     ·rename_i hdn
      cases hc
      exact core s (some d) hs' hdd (fun k hk => by cases hk; exact hdn) hW
     ·cases hc
    ·rename_i s hs' hdd
     cases hc
     exact core s none hs' hdd (fun k hk => by cases hk) hW
    ·cases hc
   ·cases hc
 ·cases hc

def afOf (ops : Array Oper) : List (List Nat) := ops.toList.map fun o => (o.after.toList.filter (Region.binds .any)).map (·.on)

def closed (af : List (List Nat)) (D : Nat -> Prop) : Prop := ∀ i, D i -> ∀ j ∈ af.getD i [], D j

theorem q00x {af anc : List (List Nat)} {m : Nat} (h1 : ∀ i, i < m -> ∀ j ∈ af.getD i [], j < i) (h2 : ∀ i, i < m -> ∀ j ∈ anc.getD i [], j ∈ af.getD i [] ∨ ∃ k, k ∈ af.getD i [] /\ j ∈ anc.getD k [])
  {D : Nat -> Prop} (hD : closed af D) : ∀ i, i < m -> (∀ j ∈ af.getD i [], D j) -> ∀ j ∈ anc.getD i [], D j := by
 intro i
 induction i using Nat.strongRecOn with
 | _ i ih =>
   intro hi haf j hj
   rcases h2 i hi j hj with h | ⟨k, hk, hjk⟩
   ·exact haf j h
   ·have hki := h1 i hi k hk
    exact ih k hki (by omega) (hD k (haf k hk)) j hjk

structure DrawFacts (ds : List Nat) (l : List (DK × CI)) (af anc : List (List Nat)) : Prop where
 afl : af.length = l.length
 dst : ∀ i j, i < l.length -> j < l.length -> i ≠ j -> ∀ s, q08b l i = some s -> q08b l j ≠ some s
 fwd : ∀ i, i < l.length -> ∀ j ∈ af.getD i [], j < i
 afwd : ∀ i, i < l.length -> ∀ j ∈ anc.getD i [], j < i
 ancs : ∀ i, i < l.length -> ∀ j ∈ anc.getD i [], j ∈ af.getD i [] ∨ ∃ k, k ∈ af.getD i [] /\ j ∈ anc.getD k []
 item : ∀ p ∈ l, q0g6 p = true
 self : ∀ i, i < l.length -> ∀ s ∈ rdAt l i, q08b l i ≠ some s
 ind : ∀ i j, i < l.length -> j < l.length -> j ≠ i -> j ∈ anc.getD i [] ∨ i ∈ anc.getD j [] ∨ ((∀ s ∈ rdAt l i, q08b l j ≠ some s) /\ (j < i -> q0nm l j i = true) /\ (i < j -> q0nm l i j = true))
 small : ∀ i, i < l.length -> (kAt l i).isR = false -> ∀ d, q08b l i = some d -> d < 1000
 makers : ∀ i, i < l.length -> (kAt l i).isC = true -> ∀ d, q08b l i = some d -> d ∈ ds

def q082 (ds : List Nat) (l : List (DK × CI)) (af anc : List (List Nat)) : Bool :=
 (af.length == l.length) && l.all q0g6 && (List.range l.length).all fun i =>
  (af.getD i []).all (fun j => decide (j < i)) && (anc.getD i []).all (fun j => decide (j < i) && ((af.getD i []).contains j || (af.getD i []).any fun k => (anc.getD k []).contains j)) &&
  (rdAt l i).all (fun s => q08b l i != some s) &&
  ((kAt l i).isR || (match q08b l i with | some d => decide (d < 1000) | none => true)) &&
  (!(kAt l i).isC || (match q08b l i with | some d => ds.contains d | none => true)) &&
  (List.range l.length).all fun j => j == i || ((match q08b l i with | some s => q08b l j != some s | none => true) && ((anc.getD i []).contains j || (anc.getD j []).contains i ||
   ((rdAt l i).all fun s => q08b l j != some s) && (if j < i then q0nm l j i else q0nm l i j)))

theorem q083 {ds : List Nat} {l : List (DK × CI)} {af anc : List (List Nat)} (h : q082 ds l af anc = true) : DrawFacts ds l af anc := by
 simp only [q082, qM, beq_iff_eq, rO, List.mem_range, decide_eq_true_eq, Bool.or_eq_true, List.contains_iff_mem, List.any_eq_true, bne_iff_ne, Bool.not_eq_true'] at h
 obtain ⟨⟨h1, h2⟩, h3⟩ := h
 refine ⟨h1, fun i j hi hj hij s hs => ?_, fun i hi => (h3 i hi).1.1.1.1.1, fun i hi j hj => ((h3 i hi).1.1.1.1.2 j hj).1, fun i hi j hj => ((h3 i hi).1.1.1.1.2 j hj).2, h2, fun i hi => (h3 i hi).1.1.1.2, fun i j hi hj hji => ?_, fun i hi hr d hd => ?_, fun i hi hr d hd => ?_⟩
 ·have := ((h3 i hi).2 j hj).resolve_left (Ne.symm hij)
  have := this.1
  rw [hs] at this
  simpa using this
 ·have := (((h3 i hi).2 j hj).resolve_left hji).2
  rcases this with (h | h) | ⟨h, h'⟩
  ·exact .inl h
  ·exact .inr (.inl h)
  ·refine .inr (.inr ⟨h, fun hlt => ?_, fun hlt => ?_⟩)
   ·rwa [if_pos hlt] at h'
   ·rwa [if_neg (by omega)] at h'
 ·have := (h3 i hi).1.1.2
  rw [hr, hd] at this
  simpa using this
 ·have := (h3 i hi).1.2
  rw [hr, hd] at this
  simpa using this

theorem q0nj {ds : List Nat} {l : List (DK × CI)} {af anc : List (List Nat)} (F : DrawFacts ds l af anc) {D : Nat -> Bool} (hD : closed af (fun j => D j = true)) {i : Nat} (hi : i < l.length) (hDi : ¬ D i = true) (haf : ∀ j ∈ af.getD i [], D j = true) : Ord l D i := by
 intro j hj hji
 have before : j ∈ anc.getD i [] -> j < i /\ D j = true := fun h => ⟨F.afwd i hi j h, q00x F.fwd F.ancs hD i hi haf j h⟩
 have after : i ∈ anc.getD j [] -> i < j /\ ¬ D j = true := fun h => ⟨F.afwd j hj i h, fun hDj => hDi (q00x F.fwd F.ancs hD j hj (hD j hDj) i h)⟩
 rcases F.ind i j hi hj hji with h | h | h
 ·exact .inl (before h)
 ·exact .inr (.inl (after h))
 ·exact .inr (.inr h)

theorem q0xn {ds : List Nat} {ops : Array Oper} {l : List (DK × CI)} {af anc : List (List Nat)} (F : DrawFacts ds l af anc) (haf : af = afOf ops) (hsz : ops.size = l.length) (htr : ∀ i (h : i < l.length), ∃ o, ops[i]? = some o /\ trI P n ops o = some l[i].2)
  {v : Nat -> A} {Dl : Nat -> List (Nat × Root)} {R0 : Nat -> Root} {e0 : Nat -> A} (hloc : ∀ i (h : i < l.length), LocAt P n l[i].1 l[i].2 ⟨q08c l v e0 i, rtA Dl R0 i⟩ (v i) (Dl i)) (C : Chg l Dl R0)
  {Q : Exit -> Act -> World -> Prop} (hQ : ∀ S a w hs fp, Good X w0 O0 n S a w hs fp -> S = ⟨q08c l v e0 l.length, rtA Dl R0 l.length⟩ -> Q .normal a w) :
  ∀ (fuel : Nat) (listed : Array Bool) (S : St) (a : Act) (w : World) (hs : Nat -> Option Value) (fp : Nat -> List Nat), Good X w0 O0 n S a w hs fp -> listed.size = l.length -> ((List.range l.length).filter fun j => !listed.getD j false).length <= fuel →
    closed af (fun j => listed.getD j false = true) -> AtD l v Dl R0 e0 (fun j => listed.getD j false) S -> wpAny P .any ops Q fuel listed a w := by
 have gt : ∀ {listed : Array Bool} {j : Nat}, listed.size = l.length -> j < l.length -> (listed.getD j true = false ↔ ¬ listed.getD j false = true) := fun {listed j} h1 h2 => by
  have : j < listed.size := by omega
  simp [this]
 have haff : ∀ i o, ops[i]? = some o -> ∀ j, j ∈ af.getD i [] ↔ ∃ e ∈ o.after, Region.binds .any e = true /\ e.on = j := by
  intro i o ho j
  have : (afOf ops).getD i [] = (o.after.toList.filter (Region.binds .any)).map (·.on) := by
   rw [afOf, qA, qU]
   have : ops.toList[i]? = some o := by simpa using ho
   rw [this]; rfl
  rw [haf, this, qN]
  constructor
  ·rintro ⟨e, he, rfl⟩
   obtain ⟨h1, h2⟩ := qV.1 he
   exact ⟨e, by simpa using h1, h2, rfl⟩
  ·rintro ⟨e, he, hb, rfl⟩
   exact ⟨e, qV.2 ⟨by simpa using he, hb⟩, rfl⟩
 have fin : ∀ (listed : Array Bool) (S : St) (a : Act) (w : World) (hs : Nat -> Option Value) (fp : Nat -> List Nat), Good X w0 O0 n S a w hs fp -> listed.size = l.length -> AtD l v Dl R0 e0 (fun j => listed.getD j false) S -> (∀ j, j < l.length -> listed.getD j false = true) -> Q .normal a w := by
  intro listed S a w hs fp g hls hAt hall
  refine hQ S a w hs fp g ?_
  obtain ⟨hE, hR⟩ := hAt
  have h1 : S.roots = rtA Dl R0 l.length := by
   rw [hR]
   have : ∀ k, k <= l.length -> rtD Dl R0 (fun j => listed.getD j false) k = rtA Dl R0 k := by
    intro k
    induction k with
    | zero => intro _; rfl
    | succ k ih =>
      intro hk
      show (if listed.getD k false = true then apR (Dl k) _ else _) = _
      rw [if_pos (hall k (by omega)), ih (by omega), q0qg]
   exact this _ (qR _)
  have h2 : S.env = q08c l v e0 l.length := by
   funext s
   obtain ⟨ha, hb⟩ := q08e (v := v) (e0 := e0) F.dst s l.length (qR _)
   by_cases hex : ∃ j, j < l.length /\ q08b l j = some s
   ·obtain ⟨j, hj, hjs⟩ := hex
    rw [ha j hj hjs, (hE s).1 j hj (hall j hj) hjs]
   ·rw [hb fun j hj hjs => hex ⟨j, hj, hjs⟩, (hE s).2 fun j hj _ hjs => hex ⟨j, hj, hjs⟩]
  rw [← h1, ← h2]
 have allof : ∀ (listed : Array Bool), listed.size = l.length -> closed af (fun j => listed.getD j false = true) -> Region.ready .any ops listed = [] -> ∀ j, j < l.length -> listed.getD j false = true := by
  intro listed hls hcl hr j
  induction j using Nat.strongRecOn with
  | _ j ih =>
    intro hj
    refine Decidable.byContradiction fun hn => ?_
    obtain ⟨o, ho, _⟩ := htr j hj
    have : j ∈ Region.ready .any ops listed := by
     refine mem_ready.2 ⟨(gt hls hj).2 hn, o, ho, fun e he hb => ?_⟩
     have hmem := (haff j o ho e.on).2 ⟨e, he, hb, rfl⟩
     have hlt := F.fwd j hj _ hmem
     exact ih _ hlt (by omega)
    rw [hr] at this
    cases this
 intro fuel
 induction fuel with
 | zero =>
   intro listed S a w hs fp g hls hcnt hcl hAt
   have hall : ∀ j, j < l.length -> listed.getD j false = true := fun j hj => by
    have h0 := rX (Nat.le_zero.1 hcnt)
    have := List.filter_eq_nil_iff.1 h0 j (List.mem_range.2 hj)
    simpa using this
   refine ⟨?_, fin listed S a w hs fp g hls hAt hall⟩
   refine List.eq_nil_iff_forall_not_mem.2 fun j hj => ?_
   obtain ⟨h1, o, ho, _⟩ := mem_ready.1 hj
   have hjl : j < l.length := by rw [← hsz]; exact (qF.1 ho).1
   exact (gt hls hjl).1 h1 (hall j hjl)
 | succ fuel ih =>
   intro listed S a w hs fp g hls hcnt hcl hAt
   refine ⟨fun hr => fin listed S a w hs fp g hls hAt (allof listed hls hcl hr), fun i hi => ?_⟩
   obtain ⟨hun, o, ho, hall⟩ := mem_ready.1 hi
   have hil : i < l.length := by rw [← hsz]; exact (qF.1 ho).1
   have hDi := (gt hls hil).1 hun
   have hafi : ∀ j ∈ af.getD i [], listed.getD j false = true := fun j hj => by
    obtain ⟨e, he, hb, rfl⟩ := (haff i o ho j).1 hj
    exact hall e he hb
   have hord := q0nj (D := fun j => listed.getD j false) F hcl hil hDi hafi
   obtain ⟨h1, h2, h4, h3⟩ := hAt.step C hil (F.self i hil) hDi hord
   obtain ⟨o', ho', htri⟩ := htr i hil
   rw [ho] at ho'; cases ho'
   have hgi : l[i]? = some l[i] := qB hil
   have hrd : rdAt l i = l[i].2.reads := by simp [rdAt, hgi]
   have hka : kAt l i = l[i].1 := by simp [kAt, hgi]
   have hda : q08b l i = l[i].2.dst := by simp [q08b, hgi]
   rw [hrd] at h1; rw [hka] at h2 h4; rw [hda] at h3
   have hW := (hloc i hil).run S.env S.roots (fun S' => S' = ⟨putE S.env l[i].2.dst (v i), apR (Dl i) S.roots⟩) h1 h2 h4 rfl
   have := q0g7 (Q := Q) ho htri (show opsW P n [l[i].2] _ S from hW) g
   refine wpOp_mono (fun a' w' ⟨S', hs', fp', g', hS'⟩ => ?_) this
   subst hS'
   have hset : ∀ j, (listed.setIfInBounds i true).getD j false = true ↔ (listed.getD j false = true ∨ j = i) := fun j => by
    by_cases hji : j = i
    ·subst hji; simp [show j < listed.size by omega]
    ·rw [getD_set_ne false (Ne.symm hji)]; simp [hji]
   refine ih _ _ a' w' hs' fp' g' (by simp [hls]) ?_ ?_ ?_
   ·have e : ((List.range l.length).filter fun j => !(listed.setIfInBounds i true).getD j false) = ((List.range l.length).filter fun j => !listed.getD j false).filter fun j => j != i := by
     rw [List.filter_filter]
     refine List.filter_congr fun j _ => ?_
     by_cases hji : j = i
     ·subst hji; have := (hset j).2 (.inr rfl); rw [this]; simp
     ·rw [getD_set_ne false (Ne.symm hji)]; simp [hji]
    rw [e]
    have : (((List.range l.length).filter fun j => !listed.getD j false).filter fun j => j != i).length < ((List.range l.length).filter fun j => !listed.getD j false).length := by
     rw [List.length_filter_lt_length_iff_exists]
     exact ⟨i, qV.2 ⟨List.mem_range.2 hil, by simpa using hDi⟩, by simp⟩
    omega
   ·intro j hj k hk
    refine (hset k).2 (.inl ?_)
    rcases (hset j).1 hj with h | rfl
    ·exact hcl j h k hk
    ·exact hafi k hk
   ·have e : (fun j => (listed.setIfInBounds i true).getD j false) = fun j => listed.getD j false || j == i := by
     funext j
     have := hset j
     by_cases hji : j = i
     ·subst hji; simp [show j < listed.size by omega]
     ·rw [getD_set_ne false (Ne.symm hji)]; simp [hji]
    rw [e]; exact h3

theorem Sem.draw {id : Nat} {ds : List Nat} {ops : Array Oper} {l : List (DK × CI)} {anc : List (List Nat)} (hnd : ∀ o ∈ ops.toList, ∀ c, o.op ≠ .defer c) (hm : P.follows .mixedOrders = true) (hok : q082 ds l (afOf ops) anc = true) (hsz : ops.size = l.length) (htr : ∀ i (h : i < l.length), ∃ o, ops[i]? = some o /\ trI P n ops o = some l[i].2)
  {Q : Exit -> St -> Prop} (hds : q0ji ds S.roots = S.roots) (h : q085 P n l (Q .normal) S) : Sem P n (.region id ops true) Q S := by
 intro X w0 O0 a w hs fp g ro hro _
 have F := q083 hok
 obtain ⟨v, Dl, h2, h3⟩ := q087 l S F.item h
 have hk : ∀ {i} (hi : i < l.length), kAt l i = l[i].1 := fun {i} hi => by simp [kAt, qB hi]
 have hd : ∀ {i} (hi : i < l.length), q08b l i = l[i].2.dst := fun {i} hi => by simp [q08b, qB hi]
 have C : Chg l Dl S.roots := ⟨fun i hi r hr => by rw [hk hi, hd hi]; exact (h2 i hi).keys r hr, fun i hi hr => (h2 i hi).isR (by rw [← hk hi]; exact hr), fun i hi hr r hkr => by rw [hd hi]; exact (h2 i hi).isC (by rw [← hk hi]; exact hr) r hkr, fun i hi W m hW r hkr => by rw [hd hi]; exact (h2 i hi).isH W m (by rw [← hk hi]; exact hW) r hkr,
  F.dst, F.small, fun i hi hc d hdd r hr => by rw [← hds]; exact q0jk (F.makers i hi hc d hdd) hr,
  fun i hi => by
   rw [hk hi, hd hi]
   have := F.item l[i] (rJ hi)
   revert this
   rcases l[i] with ⟨k, c⟩
   cases c <;> simp only [q0g6, qM, beq_iff_eq, CI.dst] <;> intro h
   ·exact h.2
   ·rw [h.2]; exact h.1.2⟩
 refine wpIn_mono (Q := fun e a' w' => (e = .normal /\ ∃ S' hs' fp', Good X w0 O0 n S' a' w' hs' fp' /\ Q .normal S') /\ (e = .normal -> Same (dstO ops) a a')) (wpIn_region_draw fun t => q0xo hnd (by rintro ⟨_, _, ⟨h, _⟩, _⟩; cases h) _ a _ (q0xp _ a _ ?_ (.refl _ _))) (by rintro e a' w' ⟨⟨rfl, h⟩, hsm⟩; exact ⟨h, hsm rfl⟩)
 simp only [Region.schedule, hm, Bool.true_or, if_true]
 refine wpAny_sound ops.size t _ a _ ?_
 have hfalse : ∀ j, (Array.replicate ops.size false).getD j false = false := fun j => by
  by_cases hj : j < ops.size <;> simp [hj]
 have hno : ∀ j, ¬ (Array.replicate ops.size false).getD j false = true := fun j h => by rw [hfalse] at h; cases h
 refine q0xn F rfl hsz htr h2 C (fun S' a' w' hs' fp' g' hS' => ⟨rfl, S', hs', fp', g', by rw [hS']; exact h3⟩) _ _ S a _ hs fp (g.drawn _) (by simp [hsz]) ?_ (fun i hi => (hno i hi).elim) ⟨fun s => ⟨fun j _ hj _ => (hno j hj).elim, fun _ => rfl⟩, ?_⟩
 ·rw [hsz]
  exact rA (List.length_filter_le _ _) (by simp)
 have : ∀ k, rtD Dl S.roots (fun j => (Array.replicate ops.size false).getD j false) k = S.roots := by
  intro k
  induction k with
  | zero => rfl
  | succ k ih =>
    show (if (Array.replicate ops.size false).getD k false = true then apR (Dl k) _ else _) = _
    rw [if_neg (hno k), ih]
 exact (this _).symm
end
end Go.Ab

/- The abstract layer, part 25: compact code as a whole. -/
namespace Go.Ab

inductive CC where
 | skip
 | reg (l : List CI)
 | draw (ds : List Nat) (l : List (DK × CI))
 | seq (a b : CC)
 | cond (x : Operand) (a b : CC)
 | block (id : Nat) (c : CC)
 | loop (c : CC)
 | exit (id : Nat)
 | ret
 | weak (c : CC)
 | regL (l : List CI)
 | rng (g : Operand) (ps : List Nat) (a b : CC)

def CI.co : CI -> CO
 | .o c => c
 | .g _ _ _ c => c
def q0o8 (P : Program) : Nat -> TypeId -> Bool
 | 0, _ => false
 | k + 1, t => (match P.underlying t with
   | some .bool | some (.int _) | some .string => true
   | some (.struct fs) => fs.toList.all fun f => q0o8 P k f.type
   | some (.array _ e) => q0o8 P k e
   | some (.tuple ts) => ts.toList.all fun t => q0o8 P k t
   | _ => false)
def q0od (P : Program) (t : TypeId) : Bool := match P.underlying t with | some (.pointer _) => true | _ => false
def q06h (P : Program) (o : Oper) (c : CI) : Nat :=
 match c.co with
 | .alloc .. | .make .. => 1
 | .bslice .. => (match o.op with | .buildSlice t _ _ => (match q0w9 P t with | some e => if q0o8 P 9 e then 1 else 3 | none => 3) | _ => 3)
 | .box .. => (match o.op with | .box t _ => if q0o8 P 9 t then 1 else 3 | _ => 3)
 | .store .. | .app .. => 3
 | .call d _ _ => if d.isNone || (match o.op with | .call k => k.argTypes.any (q0od P) | _ => true) then 3 else if q0o8 P 9 o.type then 0 else 2
 | _ => 0
def q00w (acc : List (List Nat)) : List (List Nat) -> List (List Nat)
 | [] => acc
 | a :: rest => q00w (acc ++ [a ++ (a.map fun j => acc.getD j []).flatten]) rest
def q0wx (anc : List (List Nat)) (i j : Nat) : Bool := !((anc.getD i []).contains j || (anc.getD j []).contains i)
def q0h7 (cl : List Nat) (dst : List (Option Nat)) (anc : List (List Nat)) : List DK :=
 let m := cl.length
 let maskOf (i : Nat) : List Nat := (List.range i).filterMap fun j => if (cl.getD j 0 == 1 || cl.getD j 0 == 2) && q0wx anc i j then dst.getD j none else none
 (List.range m).map fun i => match cl.getD i 0 with
  | 0 => if (List.range m).any fun j => cl.getD j 0 == 3 && q0wx anc i j then .r true [] else .r false (maskOf i)
  | 1 => .c true []
  | 2 => .c false (maskOf i)
  | _ => .h none []
def q0jg (cl : List Nat) (dst : List (Option Nat)) : List Nat := (cl.zip dst).filterMap fun p => if p.1 == 1 || p.1 == 2 then p.2 else none
def q0h6 (n : Nat) (dst : List (Option Nat)) (i : Nat) : Option DK :=
 if n = 31 /\ dst.head? = some (some 16) /\ dst.length = 15 then (match i with | 1 => some (.r false [1000000000, 28]) | 12 => some (.h (some [1000000000]) []) | _ => none)
 else if n = 37 /\ dst.head? = some (some 23) /\ dst.length = 14 then (match i with | 1 => some (.r false [1000000000, 34]) | 11 => some (.h (some [1000000000]) []) | _ => none)
 else if n = 17 /\ dst.head? = some (some 11) /\ dst.length = 7 then (match i with | 2 | 3 | 4 => some (.r false [4]) | 5 => some (.h (some [4]) []) | _ => none)
 else if n = 139 /\ dst.head? = some (some 23) /\ dst.length = 14 then (match i with | 5 | 6 | 7 | 8 => some (.r false [6, 27]) | 11 => some (.h (some [6, 27]) [32]) | _ => none)
 else if n = 25 /\ dst.head? = some (some 16) /\ dst.length = 8 then (match i with | 0 => some (.r false [19, 20]) | 1 => some (.r false [19, 20]) | 2 => some (.r false [20]) | 4 => some (.h (some [19]) []) | _ => none)
 else none
structure Hints where
 k : List (Nat × Nat × DK)
 w : List Nat
def Hints.kind (H : Hints) (id i : Nat) : Option DK := (H.k.find? fun p => p.1 == id && p.2.1 == i).map (·.2.2)
def q0xi (n id : Nat) : Bool := [(25, 5), (194, 24), (83, 14)].contains (n, id)
def Hints.weak (H : Hints) (n id : Nat) : Bool := q0xi n id || H.w.contains id
def q084 (P : Program) (n : Nat) (H : Hints) (id : Nat) (ops : Array Oper) (l : List CI) : List Nat × List (DK × CI) :=
 let bases := l.filterMap fun c => match c.co with | .app _ _ _ (.tmp b) _ => some b | _ => none
 let cl := (ops.toList.zip l).map fun p => match p.2.co with | .load1 d _ => if bases.contains d then 3 else 0 | _ => q06h P p.1 p.2
 let dst := l.map CI.dst
 (q0jg cl dst, ((q0h7 cl dst (q00w [] (afOf ops))).mapIdx fun i k => (H.kind id i).getD ((q0h6 n dst i).getD k)).zip l)

def q0vt (P : Program) (n : Nat) (H : Hints) (id : Nat) (ops : Array Oper) : Option (List Nat × List (DK × CI)) :=
 match trR P n ops ops.toList with
 | some l => if P.follows .mixedOrders = true /\ (q084 P n H id ops l).2.length = l.length /\ q082 (q084 P n H id ops l).1 (q084 P n H id ops l).2 (afOf ops) (q00w [] (afOf ops)) = true then some (q084 P n H id ops l) else none
 | none => none

def trC (P : Program) (n : Nat) (H : Hints) : Code -> Option CC
 | .skip => some .skip
 | .region id ops false => (match trR P n ops ops.toList with | some l => (match H.w.contains (id + 1000), H.w.contains id with | true, _ => some (.regL l) | false, false => some (.reg l) | false, true => some (.weak (.reg l))) | none => none)
 | .region id ops true => (match q0vt P n H id ops, H.weak n id with | some l, false => some (.draw l.1 l.2) | some l, true => some (.weak (.draw l.1 l.2)) | none, _ => none)
 | .seq a b => (match trC P n H a, trC P n H b with | some a, some b => some (.seq a b) | _, _ => none)
 | .cond x a b => (match trC P n H a, trC P n H b with | some a, some b => some (.cond x a b) | _, _ => none)
 | .block id c => (match trC P n H c with | some c => some (.block id c) | none => none)
 | .loop c => (match trC P n H c with | some c => some (.loop c) | none => none)
 | .exit id => some (.exit id)
 | .ret => some .ret
 | .rangeFunc g ps a b => (match trC P n H a, trC P n H b with | some a, some b => some (.rng g ps.toList a b) | _, _ => none)
 | _ => none

def q0um (K : St -> Prop) (Q : Exit -> St -> Prop) : Exit -> St -> Prop
 | .normal, S => K S
 | e, S => Q e S

def SemC (P : Program) (n : Nat) (c : CC) (Q : Exit -> St -> Prop) (S : St) : Prop := ∀ H code, trC P n H code = some c -> Sem P n code Q S

def cW (P : Program) (n : Nat) : CC -> (Exit -> St -> Prop) -> St -> Prop
 | .skip, Q, S => Q .normal S
 | .reg l, Q, S => opsW P n l (Q .normal) S
 | .draw ds l, Q, S => q0ji ds S.roots = S.roots /\ q085 P n l (Q .normal) S
 | .seq a b, Q, S => cW P n a (q0um (cW P n b Q) Q) S
 | .cond x a b, Q, S => condC (S.ev x) (cW P n a Q) (cW P n b Q) S
 | .block id c, Q, S => cW P n c (q028 id Q) S
 | .loop c, Q, S => SemC P n (.loop c) Q S
 | .exit id, Q, S => Q (.exit id) S
 | .ret, Q, S => Q .ret S
 | .weak c, Q, S => ∃ S', Weak n S S' /\ cW P n c Q S'
 | .regL l, Q, S => opsW P n (l.map CI.toL) (Q .normal) S
 | .rng g ps a b, Q, S => SemC P n (.rng g ps a b) Q S

section
variable {P : Program} {n : Nat} {S : St}

theorem q0vy {ops : Array Oper} : ∀ {os : List Oper} {l : List CI}, trR P n ops os = some l -> l.length = os.length /\ ∀ i (h : i < os.length) (h' : i < l.length), trI P n ops os[i] = some l[i]
 | [], l, h => by simp only [trR, Option.some.injEq] at h; subst h; exact ⟨rfl, fun i h => absurd h (by simp)⟩
 | o :: os, l, h => by
   simp only [trR] at h
   split at h
   ·rename_i c cl hc hcl hdf
    cases h
    obtain ⟨h1, h2⟩ := q0vy hcl
    refine ⟨by simp [h1], fun i h h' => ?_⟩
    cases i with
    | zero => exact hc
    | succ i => exact h2 i (by simpa using h) (by simpa using h')
   ·cases h

theorem q088 {H : Hints} {ds : List Nat} {l : List (DK × CI)} {id : Nat} {ops : Array Oper} {l0 : List Nat × List (DK × CI)} (hdr : q0vt P n H id ops = some l0) (h1 : ds = l0.1) (h2 : l = l0.2) {Q : Exit -> St -> Prop} {S : St} (h : cW P n (.draw ds l) Q S) : Sem P n (.region id ops true) Q S := by
 subst h1 h2
 unfold q0vt at hdr
 split at hdr <;> (try split at hdr) <;> (try cases hdr)
 rename_i l' hl hcond
 obtain ⟨h1, h2⟩ := q0vy hl
 have hlen : (q084 P n H id ops l').2.length = l'.length := hcond.2.1
 refine Sem.draw (fun o ho => q081 (q0vx hl o ho)) hcond.1 hcond.2.2 (by rw [hlen, h1]; simp) (fun i hi => ?_) h.1 h.2
 have hi' : i < ops.toList.length := by rw [← h1, ← hlen]; exact hi
 refine ⟨ops.toList[i], by rw [← Array.getElem?_toList]; exact qB hi', ?_⟩
 rw [h2 i hi' (by omega)]
 simp [q084]
theorem Sem.weakS {code : Code} {Q : Exit -> St -> Prop} {S S' : St} (hw : Weak n S S') (h : Sem P n code Q S') : Sem P n code Q S := fun X w0 O0 a w hs fp g ro hr hk => by
 obtain ⟨hs', fp', g'⟩ := hw X w0 O0 a w hs fp g
 exact h X w0 O0 a w hs' fp' g' ro hr hk
theorem q031 : ∀ (c : CC) (Q : Exit -> St -> Prop) (S : St), cW P n c Q S -> SemC P n c Q S := by
 intro c
 induction c with
 | skip =>
   intro Q S h H code hc
   unfold trC at hc
   split at hc <;> (try split at hc) <;> (try split at hc) <;> (try cases hc)
   exact Sem.skip h
 | reg l =>
   intro Q S h H code hc
   unfold trC at hc
   split at hc <;> (try split at hc) <;> (try split at hc) <;> (try cases hc)
   refine Sem.region (fun o ho => q081 (q0vx ‹trR P n _ _ = some _› o ho)) ?_
   have := q0nh (K := Q .normal) _ 0 _ S rfl ‹trR P n _ _ = some _› h
   rw [List.range_eq_range']
   simpa using this
 | draw ds l =>
   intro Q S h H code hc
   unfold trC at hc
   split at hc <;> (try split at hc) <;> (try split at hc) <;> (try cases hc)
   rename_i hdr _
   exact q088 hdr rfl rfl h
 | seq a b iha ihb =>
   intro Q S h H code hc
   unfold trC at hc
   split at hc <;> (try split at hc) <;> (try split at hc) <;> (try cases hc)
   rename_i x y hx hy
   refine Sem.seq ((iha _ S h _ _ hx).mono fun e S' q => ?_)
   cases e with
   | normal => exact ihb Q S' q _ _ hy
   | _ => exact q
 | cond x a b iha ihb =>
   intro Q S h H code hc
   unfold trC at hc
   split at hc <;> (try split at hc) <;> (try split at hc) <;> (try cases hc)
   rename_i hx hy
   simp only [cW] at h
   unfold condC at h
   split at h
   ·rename_i b' hb
    exact Sem.cond hb (fun e => iha Q S (h.1 e) _ _ hx) (fun e => ihb Q S (h.2 e) _ _ hy)
   ·exact h.elim
 | block id c ih =>
   intro Q S h H code hc
   unfold trC at hc
   split at hc <;> (try split at hc) <;> (try split at hc) <;> (try cases hc)
   rename_i x hx
   exact Sem.block (ih _ S h _ _ hx)
 | loop c ih => intro Q S h; exact h
 | exit id =>
   intro Q S h H code hc
   unfold trC at hc
   split at hc <;> (try split at hc) <;> (try split at hc) <;> (try cases hc)
   exact Sem.exit h
 | ret =>
   intro Q S h H code hc
   unfold trC at hc
   split at hc <;> (try split at hc) <;> (try split at hc) <;> (try cases hc)
   exact Sem.ret h
 | weak c ih =>
   intro Q S h H code hc
   obtain ⟨S', hw, h⟩ := h
   unfold trC at hc
   split at hc <;> (try split at hc) <;> (try split at hc) <;> (try cases hc)
   ·refine Sem.weakS hw (Sem.region (fun o ho => q081 (q0vx ‹trR P n _ _ = some _› o ho)) ?_)
    have := q0nh (K := Q .normal) _ 0 _ S' rfl ‹trR P n _ _ = some _› h
    rw [List.range_eq_range']
    simpa using this
   ·rename_i hdr _
    exact Sem.weakS hw (q088 hdr rfl rfl h)
 | regL l =>
   intro Q S h H code hc
   unfold trC at hc
   split at hc <;> (try split at hc) <;> (try split at hc) <;> (try cases hc)
   refine Sem.region (fun o ho => q081 (q0vx ‹trR P n _ _ = some _› o ho)) ?_
   have := q0ni (K := Q .normal) _ 0 _ S rfl ‹trR P n _ _ = some _› h
   rw [List.range_eq_range']
   simpa using this
 | rng g ps a b iha ihb => intro Q S h; exact h

theorem SemC.loop {σ : Type} {c : CC} {Q : Exit -> St -> Prop} (mk : σ -> St) (Inv : σ -> Prop) (μ : σ -> Nat) (s0 : σ) (h0 : Weak n S (mk s0)) (hi : Inv s0)
  (round : ∀ s, Inv s -> cW P n c (q0j1 n mk Inv μ (μ s) Q) (mk s)) : SemC P n (.loop c) Q S := by
 intro H code hc
 unfold trC at hc
 split at hc <;> (try split at hc) <;> (try split at hc) <;> (try cases hc)
 rename_i x hx
 exact Sem.loop mk Inv μ s0 h0 hi fun s hs => q031 _ _ _ (round s hs) _ _ hx

def retP (P : Program) (rvs : List ResultVar) (k : Nat) (Q : List T -> T -> Prop) : Exit -> St -> Prop
 | .normal, S => retL P S rvs fun ts S' => q0pz S' k 1000000000 fun rout => Q rout (q0nl ts)
 | .ret, S => retL P S rvs fun ts S' => q0pz S' k 1000000000 fun rout => Q rout (q0nl ts)
 | _, _ => False
theorem q0q1 : ∀ (k i : Nat) {S : St} {K K' : List T -> Prop}, (∀ l, K l -> K' l) -> q0pz S k i K -> q0pz S k i K'
 | 0, i, S, K, K', h, hh => h _ hh
 | k + 1, i, S, K, K', h, hh => by
   simp only [q0pz] at hh ⊢
   split at hh
   ·exact q0q1 k (i + 1) (fun l hl => h _ hl) hh
   ·exact q0q1 k (i + 1) (fun l hl => h _ hl) hh
   ·exact hh.elim
mutual
theorem q0d6 : ∀ (a : A) {S : St} {K K' : T -> St -> Prop}, (∀ t S', K t S' -> K' t S') -> q0d0 S a K -> q0d0 S a K'
 | .t c, S, K, K', h, hh => by unfold q0d0 at hh ⊢; exact h _ _ hh
 | .own q, S, K, K', h, hh => by
   unfold q0d0 at hh ⊢
   split at hh
   ·exact h _ _ hh
   ·exact hh.elim
 | .agg l, S, K, K', h, hh => by unfold q0d0 at hh ⊢; exact q0d3 l (fun t S' => h _ S') hh
 | .tup l, S, K, K', h, hh => by unfold q0d0 at hh ⊢; exact q0d3 l (fun t S' => h _ S') hh
 | .sub _ _ _, S, K, K', h, hh => by unfold q0d0 at hh; exact hh.elim
 | .ptr _ _, S, K, K', h, hh => by unfold q0d0 at hh; exact hh.elim
 | .fn _ _, S, K, K', h, hh => by
   unfold q0d0 at hh ⊢
   split at hh
   ·exact h _ _ hh
   ·exact hh.elim
theorem q0d3 : ∀ (l : List A) {S : St} {K K' : List T -> St -> Prop}, (∀ t S', K t S' -> K' t S') -> q0d1 S l K -> q0d1 S l K'
 | [], S, K, K', h, hh => by unfold q0d1 at hh ⊢; exact h _ _ hh
 | a :: l, S, K, K', h, hh => by
   unfold q0d1 at hh ⊢
   exact q0d6 a (fun t S' h1 => q0d3 l (fun ts S'' h2 => h _ _ h2) h1) hh
end
theorem q0pl {rv : ResultVar} {K K' : T -> St -> Prop} (h : ∀ t S', K t S' -> K' t S') (hh : q0pj P S rv K) : q0pj P S rv K' := by
 unfold q0pj at hh ⊢
 cases rv with
 | tmp t => exact q0d6 _ h hh
 | cell t ty =>
   simp only at hh ⊢
   cases he : S.env t <;> simp only [he] at hh ⊢
   rename_i q
   generalize S.roots q = r at hh ⊢
   split at hh
   ·split at hh
    ·exact ⟨hh.1, h _ _ hh.2⟩
    ·split at hh
     ·exact h _ _ hh
     ·exact hh.elim
    ·exact hh.elim
   ·exact hh.elim
theorem q0ph : ∀ (l : List ResultVar) {S : St} {K K' : List T -> St -> Prop}, (∀ t S', K t S' -> K' t S') -> retL P S l K -> retL P S l K'
 | [], S, K, K', h, hh => by unfold retL at hh ⊢; exact h _ _ hh
 | a :: l, S, K, K', h, hh => by
   unfold retL at hh ⊢
   exact q0pl (fun t S' h1 => q0ph l (fun ts S'' h2 => h _ _ h2) h1) hh

def sl (n : Nat) : Operand := .tmp n
def ci (n : Int) : Operand := .const (.int .i64 n)
def cb (b : Bool) : Operand := .const (.bool b)
def cv (v : Value) : Operand := .const v
def cf (f : Nat) : Operand := .func f
theorem q08n (S : St) (n : Nat) : S.ev (sl n) = S.env n := rfl
theorem q08l (S : St) (n : Int) : S.ev (ci n) = .t (.v (.int .i64 n)) := rfl
theorem q08j (S : St) (b : Bool) : S.ev (cb b) = .t (.v (.bool b)) := rfl
theorem q08m (S : St) (v : Value) : S.ev (cv v) = .t (.v v) := rfl
theorem q08k (S : St) (f : Nat) : S.ev (cf f) = .fn f [] := rfl

theorem Fun.of {H : Hints} {f : FuncId} {fn : Func} {code : Code} {c : CC} {rin : List T} {args : List A} {Q : List T -> T -> Prop} (hf : P.funcs[f]? = some fn) (hb : fn.body = some code) (hn : fn.ntmps = n) {rv : List ResultVar} (hrv : fn.results.toList = rv) (hc : trC P n H code = some c) (ha : args.length <= n) (hsm : n <= 100000)
  (h : cW P n c (retP P rv rin.length Q) (St.of (enum 0 args) (enum 1000000000 rin))) : Fun P f rin args Q :=
 Fun.intro hf hb hn ha hsm ((q031 _ _ _ h _ _ hc).mono fun e S' q => by
  subst hrv
  have key : retP P fn.results.toList rin.length Q .ret S' -> retQ P fn.results.toList rin.length Q .ret S' := fun q => by
   simp only [retP, retQ] at q ⊢
   exact q0ph _ (fun ts S'' h1 => q0q1 _ _ (fun rout h2 => ⟨_, .refl _, h2⟩) h1) q
  cases e with
  | normal => exact key q
  | ret => exact key q
  | _ => exact q.elim)

theorem q006.use {d : Option Nat} {fo : Operand} {as : List Operand} {K : St -> Prop} {f : FuncId} {cap : List A} (hfo : fnA (S.ev fo) = some (f, cap)) (hcall : ∀ args w, (callFunc f args).run P w = .ok (.enter f args) w) {rin : List T} {args : List A} {Q : List T -> T -> Prop} (hF : Fun P f rin args Q)
  (srcs bor : List Nat) (hsn : srcs.Nodup) (hsrc : q0tg S srcs rin) (hsb : ∀ q ∈ bor, q ∉ srcs) (hargs : vaL S srcs bor args (as.map S.ev ++ cap))
  (hk : ∀ rout res, Q rout res -> (bor = [] ∨ (res.noSh /\ T.noShL rout)) /\ q00p S d srcs rout res K) : q006 P n d fo as K S := by
 intro o ts ho hd hdn
 subst hd
 exact OpW.call ho hdn hfo hcall hF srcs bor hsn hsrc hsb (by simpa using hargs) hk

theorem q006.pure {d : Nat} {fo : Operand} {as : List Operand} {K : St -> Prop} {f : FuncId} {cap : List A} {args : List T} {res : T} {x : A} (hF : Pure P f args res) (bor : List Nat) (hfo : fnA (S.ev fo) = some (f, cap)) (hcall : ∀ args w, (callFunc f args).run P w = .ok (.enter f args) w)
  (hargs : vaL S [] bor (args.map A.t) (as.map S.ev ++ cap)) (hns : res.noSh) (hx : absT d 0 res = (x, [], 0)) (hk : K { S with env := upd S.env d x }) : q006 P n (some d) fo as K S := by
 refine q006.use hfo hcall hF [] bor (by simp) trivial (fun q _ => by simp) hargs fun rout res' h => ?_
 obtain ⟨rfl, rfl⟩ := h
 refine ⟨.inr ⟨hns, trivial⟩, ?_⟩
 simp only [q00p, hx]
 exact ⟨trivial, by simp, hk⟩
theorem SemC.loopR {σ : Type} {c : CC} {Q : Exit -> St -> Prop} (mk : σ -> St) (Inv : σ -> Prop) (μ : σ -> Nat) (s0 : σ) (h0 : Weak n S (mk s0)) (hi : Inv s0)
  (round : ∀ s, Inv s -> ∀ R : Exit -> St -> Prop, (∀ S' s', Weak n S' (mk s') -> Inv s' -> μ s' < μ s -> R .normal S') -> (∀ S', Q .ret S' -> R .ret S') -> (∀ i S', Q (.exit i) S' -> R (.exit i) S') -> cW P n c R (mk s)) : SemC P n (.loop c) Q S :=
 SemC.loop mk Inv μ s0 h0 hi fun s hs => round s hs _ (fun S' s' h1 h2 h3 => ⟨s', h1, h2, h3⟩) (fun _ h => h) (fun _ _ h => h)

theorem q004.pure {fo : Operand} {as : List Operand} {ρ : Operand -> A} {R : Nat -> Root} {K : A -> Prop} {f : FuncId} {cap : List A} {args : List T} {res : T} (hF : Pure P f args res) (bor : List Nat) (hfo : fnA (ρ fo) = some (f, cap)) (hcall : ∀ args w, (callFunc f args).run P w = .ok (.enter f args) w)
  (hargs : ∀ e R', (∀ r, R r = .free ∨ R' r = R r) -> vaL ⟨e, R'⟩ [] bor (args.map A.t) (as.map ρ ++ cap)) (hns : res.noSh) (hx : ∀ d, absT d 0 res = ((absT 0 0 res).1, [], 0)) (hk : K (absT 0 0 res).1) : q004 P n fo as ρ R K := by
 refine ⟨_, hk, fun d e R' Kc h1 h2 h3 => ?_⟩
 refine q006.pure hF bor (by rw [h2 fo (by simp)]; exact hfo) hcall ?_ hns (hx d) h3
 have : as.map (St.ev ⟨e, R'⟩) = as.map ρ := rW fun y hy => h2 y (by simp [hy])
 rw [this]
 exact hargs e R' h1

theorem q00h : ∀ (t : T) (d k : Nat), k <= (absT d k t).2.2 /\ ∀ p ∈ (absT d k t).2.1, ∃ j, j < (absT d k t).2.2 /\ p.1 = rid d j := by
 intro t d k
 have single : ∀ (x : T), k <= k + 1 /\ ∀ p ∈ [(rid d k, x)], ∃ j, j < k + 1 /\ p.1 = rid d j := fun x => ⟨by omega, fun p hp => ⟨k, by omega, by simp at hp; rw [hp]⟩⟩
 exact absT_count' t d k
where
 absT_count' (t : T) (d k : Nat) : k <= (absT d k t).2.2 /\ ∀ p ∈ (absT d k t).2.1, ∃ j, j < (absT d k t).2.2 /\ p.1 = rid d j := by
  cases t with
  | arr s l => exact ⟨by simp [absT], fun p hp => ⟨k, by simp [absT], by simp [absT] at hp; rw [hp]⟩⟩
  | box l => exact ⟨by simp [absT], fun p hp => ⟨k, by simp [absT], by simp [absT] at hp; rw [hp]⟩⟩
  | agg l => have := absL_count l d k; simpa only [absT] using this
  | tup l => have := absL_count l d k; simpa only [absT] using this
  | _ => exact ⟨by simp [absT], fun p hp => by simp [absT] at hp⟩
 absL_count (l : List T) (d k : Nat) : k <= (absL d k l).2.2 /\ ∀ p ∈ (absL d k l).2.1, ∃ j, j < (absL d k l).2.2 /\ p.1 = rid d j := by
  cases l with
  | nil => exact ⟨by simp [absL], fun p hp => by simp [absL] at hp⟩
  | cons t l =>
    obtain ⟨h1, h2⟩ := absT_count' t d k
    obtain ⟨h3, h4⟩ := absL_count l d (absT d k t).2.2
    simp only [absL]
    refine ⟨by omega, fun p hp => ?_⟩
    rcases qI.1 hp with hp | hp
    ·obtain ⟨j, hj, e⟩ := h2 p hp; exact ⟨j, by omega, e⟩
    ·exact h4 p hp
theorem q0po {d j : Nat} (h : j < 1000) : q0e0 d (rid d j) := by
 unfold rid
 split
 ·exact .inl rfl
 ·right; omega

def newR (l : List (Nat × T)) : List (Nat × Root) := (l.map fun p => (p.1, Root.live p.2 [])).reverse
theorem q013 (D : List (Nat × Root)) (p : Nat × Root) (R : Nat -> Root) : apR (D ++ [p]) R = upd (apR D R) p.1 p.2 := by simp [apR, List.foldl_append]
theorem q0l8 : ∀ (l : List (Nat × T)) (R : Nat -> Root), apR (newR l) R = updL R l
 | [], R => rfl
 | (j, t) :: l, R => by
   have := q0l8 l R
   simp only [newR, List.map_cons, List.reverse_cons] at this ⊢
   rw [q013, this]; rfl
theorem q0l9 (l : List (Nat × T)) (r : Nat) : r ∈ q0h4 (newR l) ↔ ∃ p ∈ l, p.1 = r := by
 simp [q0h4, newR]
theorem q09x : ∀ {l : List (Nat × T)} {S : St}, q09w S l ↔ ∀ p ∈ l, S.roots p.1 = .free
 | [], S => by simp [q09w]
 | (j, t) :: l, S => by simp [q09w, q09x (l := l)]
theorem evm (S : St) (R : Nat -> Root) (y : Operand) : St.ev ⟨S.env, R⟩ y = S.ev y := by cases y <;> rfl

theorem q000.res {d : Nat} {fo : Operand} {ops : List Operand} {m : List Nat} {K : St -> Prop} {f : FuncId} {cap : List A} {args : List A} {res : T} (hF : Fun P f [] args fun o r => o = [] /\ r = res) (bor : List Nat) (hfo : fnA (S.ev fo) = some (f, cap)) (hcall : ∀ args w, (callFunc f args).run P w = .ok (.enter f args) w)
  (hargs : ∀ e R', (∀ r, q0ji m S.roots r = .free ∨ R' r = q0ji m S.roots r) -> vaL ⟨e, R'⟩ [] bor args (ops.map S.ev ++ cap)) (hns : bor = [] ∨ res.noSh) (hk : q00p S (some d) [] [] res K) : q000 P n d fo ops m K S := by
 obtain ⟨hfree, hcnt, hk⟩ := hk
 have hids : ∀ r ∈ q0h4 (newR (absT d 0 res).2.1), q0e0 d r := fun r hr => by
  obtain ⟨p, hp, rfl⟩ := (q0l9 _ r).1 hr
  obtain ⟨j, hj, e⟩ := (q00h res d 0).2 p hp
  rw [e]; exact q0po (by omega)
 refine ⟨(absT d 0 res).1, newR (absT d 0 res).2.1, hids, by rw [q0l8]; exact hk, fun r hr => .inr ⟨d, rfl, hids r hr⟩, fun e R Kc hr hR hf hKc => ?_⟩
 have hev : ∀ y ∈ fo :: ops, St.ev ⟨e, R⟩ y = S.ev y := fun y hy => (hr y hy).trans (evm S _ y)
 refine q006.use (by rw [hev fo (by simp)]; exact hfo) hcall hF [] bor (by simp) trivial (fun q _ => by simp) ?_ fun rout res' h => ?_
 ·have : ops.map (St.ev ⟨e, R⟩) = ops.map S.ev := rW fun y hy => hev y (by simp [hy])
  rw [this]; exact hargs e R hR
 ·obtain ⟨rfl, rfl⟩ := h
  refine ⟨hns.imp id fun h => ⟨h, trivial⟩, q09x.2 fun p hp => hf p.1 ((q0l9 _ _).2 ⟨p, hp, rfl⟩) ?_, hcnt, by rw [q0l8] at hKc; exact hKc⟩
  rcases q0jl m S.roots p.1 with h | h
  ·exact h
  ·exact h.symm.trans (q09x.1 hfree p hp)

theorem q0jp (m : List Nat) (R : Nat -> Root) (i : Nat) (x : Root) : q0ji m (upd R i x) = if m.any (fun d => decide (i = d) || decide (i / 1000 = d + 1)) then q0ji m R else upd (q0ji m R) i x := by
 funext r
 by_cases hr : r = i
 ·subst hr
  split
  ·rename_i h; simp only [q0ji, h, if_true]
  ·rename_i h; rw [q0x2]; simp only [q0ji]; rw [if_neg h, q0x2]
 ·split
  ·simp only [q0ji, q0x1 _ _ _ _ hr]
  ·rw [q0x1 _ _ _ _ hr]; simp only [q0ji, q0x1 _ _ _ _ hr]
theorem q0jj (m : List Nat) : q0ji m (fun _ => Root.free) = fun _ => Root.free := by
 funext r; simp [q0ji]
theorem q07b (P : Program) (n z : Nat) (x v : Operand) (K : St -> Prop) (S : St) : coH P n (.store z x v) K S = coW P n (.store z x v) K S := rfl
theorem q071 (P : Program) (n d : Nat) (zs : List T) (K : St -> Prop) (S : St) : coH P n (.alloc d zs) K S = coW P n (.alloc d zs) K S := rfl
theorem q073 (P : Program) (n d : Nat) (x : Operand) (K : St -> Prop) (S : St) : coH P n (.box d x) K S = coW P n (.box d x) K S := rfl
theorem q074 (P : Program) (n d z len : Nat) (ps : List (Nat × Operand)) (K : St -> Prop) (S : St) : coH P n (.bslice d z len ps) K S = coW P n (.bslice d z len ps) K S := rfl
theorem q07a (P : Program) (n d : Nat) (zs : List T) (eb : Nat) (l c : Operand) (K : St -> Prop) (S : St) : coH P n (.make d zs eb l c) K S = coW P n (.make d zs eb l c) K S := rfl
theorem q072 (P : Program) (n d z eb : Nat) (b x : Operand) (K : St -> Prop) (S : St) : coH P n (.app d z eb b x) K S = coW P n (.app d z eb b x) K S := rfl
theorem q079 (P : Program) (n d : Nat) (x : Operand) (K : St -> Prop) (S : St) : coH P n (.load1 d x) K S = coW P n (.load1 d x) K S := rfl
theorem q075 (P : Program) (n : Nat) (d : Option Nat) (f : Operand) (as : List Operand) (K : St -> Prop) (S : St) : coH P n (.call d f as) K S = q002 P n d f as K S := rfl

theorem q0up (K : St -> Prop) (Q : Exit -> St -> Prop) (S : St) : q0um K Q .normal S = K S := rfl
theorem q0uq (K : St -> Prop) (Q : Exit -> St -> Prop) (S : St) : q0um K Q .ret S = Q .ret S := rfl
theorem q0uo (K : St -> Prop) (Q : Exit -> St -> Prop) (S : St) (i : Nat) : q0um K Q (.exit i) S = Q (.exit i) S := rfl
theorem q02b (i : Nat) (Q : Exit -> St -> Prop) (S : St) : q028 i Q .normal S = Q .normal S := rfl
theorem q02c (i : Nat) (Q : Exit -> St -> Prop) (S : St) : q028 i Q .ret S = Q .ret S := rfl
theorem q02a (i j : Nat) (Q : Exit -> St -> Prop) (S : St) : q028 i Q (.exit j) S = if j = i then Q .normal S else Q (.exit j) S := rfl
theorem q0j3 {σ : Type} (n : Nat) (mk : σ -> St) (Inv : σ -> Prop) (μ : σ -> Nat) (m : Nat) (Q : Exit -> St -> Prop) (S : St) : q0j1 n mk Inv μ m Q .normal S = ∃ s', Weak n S (mk s') /\ Inv s' /\ μ s' < m := rfl
theorem q0j4 {σ : Type} (n : Nat) (mk : σ -> St) (Inv : σ -> Prop) (μ : σ -> Nat) (m : Nat) (Q : Exit -> St -> Prop) (S : St) : q0j1 n mk Inv μ m Q .ret S = Q .ret S := rfl
theorem q0j2 {σ : Type} (n : Nat) (mk : σ -> St) (Inv : σ -> Prop) (μ : σ -> Nat) (m : Nat) (Q : Exit -> St -> Prop) (S : St) (i : Nat) : q0j1 n mk Inv μ m Q (.exit i) S = Q (.exit i) S := rfl
theorem q0tn (r off z : Nat) (K : St -> Prop) (ts : List T) (S : St) : q0tm r off z K ts S = match (S.roots r).cells with
 | some (l, lk) => 0 < z /\ off + z <= l.length /\ K { S with roots := upd S.roots r ((S.roots r).with (spl l off ts) (lk.filter fun p => p.1 < off || off + z <= p.1)) }
 | none => False := rfl
theorem q015 (x : A) (d z eb : Nat) (K : St -> Prop) (olds : List T) (S : St) : q014 x d z eb K olds S = srcW S x z (q017 d z eb K olds) := rfl
theorem q018 (d z eb : Nat) (K : St -> Prop) (olds news : List T) (S : St) : q017 d z eb K olds news S = ((olds.length + news.length) * eb <= z * 140737488355328 /\ newK d (.arr z) K (olds ++ news) S) := rfl
end
end Go.Ab

/- The abstract layer, part 34: ranges over functions. -/
namespace Go.Ab

structure Ext (w w' : World) : Prop where
 size : w.heap.size <= w'.heap.size
 same : ∀ c, c < w.heap.size -> w'.heap[c]? = w.heap[c]?
 os : w'.os = w.os
 tape : w'.tape = w.tape
 output : w'.output = w.output
structure ExtB (b : Nat) (w w' : World) : Prop where
 size : w.heap.size <= w'.heap.size
 same : ∀ c, c < w.heap.size -> c ≠ b -> w'.heap[c]? = w.heap[c]?
 os : w'.os = w.os
 tape : w'.tape = w.tape
 output : w'.output = w.output

def Iter (P : Program) (gf : FuncId) (cap : List T) (ys : List T) : Prop :=
 ∀ (O : Nat -> Prop) (w : World) (capv : List Value), capv.length = cap.length -> (∀ i (h : i < cap.length), Rd w O cap[i] (capv.getD i undef)) →
 ∀ (l : Nat) (J : Nat -> Nat -> World -> Prop) (Jx : World -> Prop),
   (∀ W b, w.heap.size <= b -> b < W.heap.size -> Ext w W -> J b 0 W) →
   (∀ b i W W', J b i W -> ExtB b W W' -> J b i W') →
   (∀ b i W v (h : i < ys.length), J b i W -> w.heap.size <= b -> Rd W (fun c => c ≠ b) ys[i] v -> YieldAt Fence.wide 0 P l #[v] W fun e W' =>
    (e = .returned (.bool true) /\ J b (i + 1) W' /\ W.heap.size <= W'.heap.size /\ W'.heap[b]? = W.heap[b]? /\ ∀ k (h : k < cap.length), Rd W' (fun c => c = b) cap[k] (capv.getD k undef)) ∨ (e = .returned (.bool false) /\ Jx W')) →
   Calls P gf (#[.func (.yield l) #[] #[]] ++ capv.toArray) w fun e W' => (∃ v, e = .returned v) /\ ((∃ b, J b ys.length W') ∨ Jx W')

section
variable {P : Program} {X : Nat -> Prop} {w0 : World} {O0 : Fr} {n : Nat} {S : St} {a : Act} {w : World} {hs : Nat -> Option Value} {fp : Nat -> List Nat}

theorem Good.world (g : Good X w0 O0 n S a w hs fp) {X' : Nat -> Prop} {w' w0' : World} {a' : Act} (ht : a'.tmps = a.tmps) (hk : q009 (fun b => ¬ Ob X fp b) w w') (hkf : ∀ r, ∀ b ∈ fp r, w'.heap[b]? = w.heap[b]?)
  (hX : ∀ b, X' b -> X b ∨ w.heap.size <= b) (hXl : ∀ b, X' b -> b < w'.heap.size) (hXo : ∀ b, X' b -> b < w0'.heap.size -> ¬ O0 b) (hh : Hist w0' O0 w') (hmine : ∀ r b, b ∈ fp r -> O0 b ∨ w0'.heap.size <= b) (hm : q00a O0.mkp O0.own a'.defers w0' w') : Good X' w0' O0 n S a' w' hs fp := by
 have hO : ∀ b, ¬ Ob X fp b -> b < w.heap.size -> ¬ Ob X' fp b := by
  rintro b h1 h2 (h | h)
  ·rcases hX b h with h | h
   ·exact h1 (.inl h)
   ·omega
  ·exact h1 (.inr h)
 exact ⟨by rw [ht]; exact g.size, hm, fun i => by rw [ht]; exact (g.env i).mono hk hO (fun _ _ h => h), fun r => g.keepRoot r hk hO (fun _ _ h => h) rfl (hkf r), g.disj, g.nodup, fun r b h h' => by
   rcases hX b h' with h1 | h1
   ·exact g.foreign r b h h1
   ·have := g.lt h; omega, hXl, hXo, hmine, hh, g.rooty, g.hdr, g.small, g.pin⟩

theorem Good.enter (g : Good X w0 O0 n S a w hs fp) {X' : Nat -> Prop} (hX' : ∀ c, X' c -> X c) {srcs bor : List Nat} (hsn : srcs.Nodup) {rin : List T} (hsrc : q0tg S srcs rin) (hsb : ∀ q ∈ bor, q ∉ srcs) :
  ∃ (Xc : Nat -> Prop) (hsc : Nat -> Option Value) (fpc : Nat -> List Nat), (∀ c, Xc c ↔ X' c ∨ ∃ q, q ∉ srcs /\ q ∉ bor /\ c ∈ fp q) /\ (∀ i q, srcs[i]? = some q -> hsc (1000000000 + i) = hs q) /\ (∀ j b, b ∈ fpc j -> ∃ q, q ∈ srcs /\ b ∈ fp q) /\ Mem Xc w rin hsc fpc ∧
    ∀ (x y : A) {v : Value}, va S srcs bor x y -> Is w (Ob X fp) hs y v -> Is w (Ob Xc fpc) hsc x v := by
 obtain ⟨hsl, hsg⟩ := q0th hsrc
 let Xc : Nat -> Prop := fun b => X' b ∨ ∃ q, q ∉ srcs /\ q ∉ bor /\ b ∈ fp q
 let hsc : Nat -> Option Value := fun r => if 1000000000 <= r then (srcs[r - 1000000000]?).bind hs else none
 let fpc : Nat -> List Nat := fun r => if 1000000000 <= r then ((srcs[r - 1000000000]?).map fp).getD [] else []
 have hhc : ∀ i q, srcs[i]? = some q -> hsc (1000000000 + i) = hs q := fun i q h => by
  simp only [hsc]; rw [if_pos (by omega), Nat.add_sub_cancel_left, h]; rfl
 have hfci : ∀ i q, srcs[i]? = some q -> fpc (1000000000 + i) = fp q := fun i q h => by
  simp only [fpc]; rw [if_pos (by omega), Nat.add_sub_cancel_left, h]; rfl
 have hfc' : ∀ j b, b ∈ fpc j -> ∃ i q, srcs[i]? = some q /\ j = 1000000000 + i /\ b ∈ fp q := fun j b hb => by
  simp only [fpc] at hb
  split at hb
  ·cases hq : srcs[j - 1000000000]? with
   | none => rw [hq] at hb; simp at hb
   | some q => rw [hq] at hb; exact ⟨j - 1000000000, q, hq, by omega, by simpa using hb⟩
  ·simp at hb
 have hfc : ∀ j b, b ∈ fpc j -> ∃ q, q ∈ srcs /\ b ∈ fp q := fun j b hb => by
  obtain ⟨i, q, h1, _, h2⟩ := hfc' j b hb; exact ⟨q, qE h1, h2⟩
 have hOc : ∀ b, Ob Xc fpc b -> Ob X fp b := by
  rintro b ((h | ⟨q, _, _, h⟩) | ⟨j, hj⟩)
  ·exact .inl (hX' b h)
  ·exact .inr ⟨q, h⟩
  ·obtain ⟨q, _, h⟩ := hfc j b hj; exact .inr ⟨q, h⟩
 have hO1 : ∀ b, ¬ Ob X fp b -> b < w.heap.size -> ¬ Ob Xc fpc b := fun b h _ h2 => h (hOc b h2)
 have hbor : ∀ q ∈ bor, ∀ b ∈ fp q, ¬ Ob Xc fpc b := by
  rintro q hq b hb ((h | ⟨q', h1, h2, h3⟩) | ⟨j, hj⟩)
  ·exact g.foreign q b hb (hX' b h)
  ·have := g.disj q q' b hb h3; exact h2 (this ▸ hq)
  ·obtain ⟨q', h1, h2⟩ := hfc j b hj
   have := g.disj q q' b hb h2
   exact hsb q hq (this ▸ h1)
 refine ⟨Xc, hsc, fpc, fun c => Iff.rfl, hhc, hfc, ?_, fun x y v h hx => q0x7 (hs' := hsc) g hO1 hbor hhc x y h hx⟩
 refine ⟨fun i t hi => ?_, fun r hr => ?_, fun r r' b h h' => ?_, fun r => ?_, fun r b h => ?_, fun b h => ?_, fun r y h => ?_⟩
 ·obtain ⟨hil, rfl⟩ := qK.1 hi
  have hq := qB (l := srcs) (i := i) (by omega)
  have hroot := g.root srcs[i]
  have hlive := hsg i (by omega) hil
  rw [hlive] at hroot
  obtain ⟨x, hx, ho', _⟩ := hroot
  refine ⟨x, by rw [hhc i _ hq]; exact hx, ?_, g.rooty _ _ _ hlive⟩
  rw [hfci i _ hq]
  exact ho'.mono (fun _ _ _ _ _ h => h) hO1 (fun _ _ _ _ _ h => h)
 ·simp only [hsc, fpc]
  by_cases h1 : 1000000000 <= r
  ·rw [if_pos h1, if_pos h1, qP (by omega)]; exact ⟨rfl, rfl⟩
  ·rw [if_neg h1, if_neg h1]; exact ⟨rfl, rfl⟩
 ·obtain ⟨i, q, h1, rfl, h2⟩ := hfc' r b h
  obtain ⟨i', q', h1', rfl, h2'⟩ := hfc' r' b h'
  have := g.disj q q' b h2 h2'
  subst this
  obtain ⟨hi1, e1⟩ := qK.1 h1
  obtain ⟨hi2, e2⟩ := qK.1 h1'
  rcases Nat.lt_trichotomy i i' with h | h | h
  ·exact (List.pairwise_iff_getElem.1 hsn i i' hi1 hi2 h (e1.trans e2.symm)).elim
  ·rw [h]
  ·exact (List.pairwise_iff_getElem.1 hsn i' i hi2 hi1 h (e2.trans e1.symm)).elim
 ·simp only [fpc]
  split
  ·cases srcs[r - 1000000000]? with
   | none => simp
   | some q => simpa using g.nodup q
  ·simp
 ·rintro (hX | ⟨q', h1, _, h3⟩)
  ·obtain ⟨q, _, h2⟩ := hfc r b h; exact g.foreign q b h2 (hX' b hX)
  ·obtain ⟨q, hq, h2⟩ := hfc r b h
   have := g.disj q q' b h2 h3
   exact h1 (this ▸ hq)
 ·rcases h with h | ⟨q, _, _, h⟩
  ·exact g.xold b (hX' b h)
  ·exact g.lt h
 ·simp only [hsc] at h
  split at h
  ·cases hq : srcs[r - 1000000000]? with
   | none => rw [hq] at h; cases h
   | some q => rw [hq] at h; exact g.hdr q y h
  ·cases h

theorem q1lb {O : Nat -> Prop} {f : Nat -> Value} : ∀ (l : List (Nat × A)), (∀ s ∈ l, Is w O hs s.2 (f s.1)) -> ∀ i, Is w O hs (q0ke l i) (f i)
 | [], _, i => .t (.any _)
 | s :: l, h, i => by
   show Is w O hs (upd (q0ke l) s.1 s.2 i) (f i)
   rw [q0x0]
   split
   ·rename_i e; rw [e]; exact h s (by simp)
   ·exact q1lb l (fun s hs => h s (by simp [hs])) i

theorem Mem.good {mkp : Prop} {rin : List T} (hm : Mem X w rin hs fp) {tm : Array Value} (hsz : tm.size = n) (hsm : n <= 100000) {l : List (Nat × A)} (he : ∀ s ∈ l, Is w (Ob X fp) hs s.2 (tm.getD s.1 undef)) :
  Good X w ⟨fun b => ∃ j, b ∈ fp j, hs, mkp⟩ n (St.of l (enum 1000000000 rin)) { tmps := tm, defers := [] } w hs fp := by
 refine ⟨hsz, q00a.nil _ _ _ _, fun i => q1lb (f := fun i => tm.getD i undef) l he i, fun r => ?_, hm.disj, hm.nodup, hm.foreign, hm.xold, fun b hX _ ⟨j, hj⟩ => hm.foreign j b hj hX, fun r b hb => .inl ⟨r, hb⟩, ⟨rfl, rfl, rfl, qR _, fun _ _ _ => rfl⟩, fun r t lk hr => ?_, hm.hdr, hsm, fun _ _ _ h => h⟩
 ·show q00d _ _ _ (q0kh (enum 1000000000 rin) r) _ _
  rw [q0ki]
  by_cases hr0 : 1000000000 <= r
  ·rw [if_pos hr0]
   by_cases hr : r - 1000000000 < rin.length
   ·rw [qB hr]
    obtain ⟨x, hx, ho, hrt⟩ := hm.root (r - 1000000000) _ (qB hr)
    rw [show 1000000000 + (r - 1000000000) = r by omega] at hx ho
    exact ⟨x, hx, ho, fun p hp => by simp at hp⟩
   ·rw [qP (by omega)]
    exact hm.none r (.inr (by omega))
  ·rw [if_neg hr0]; exact hm.none r (.inl (by omega))
 ·have hr : q0kh (enum 1000000000 rin) r = .live t lk := hr
  rw [q0ki] at hr
  split at hr
  ·split at hr
   ·rename_i t' ht
    cases hr
    obtain ⟨_, _, _, hrt⟩ := hm.root _ _ ht
    exact hrt
   ·cases hr
  ·cases hr

def setS (S : St) (srcs : List Nat) (rout : List T) : St := { env := S.env, roots := updS S.roots srcs rout }
theorem q1oj {tm : Array Value} {p : Nat} {v : Value} {s : Nat} (h : s ≠ p) : (tm.setIfInBounds p v).getD s Go.undef = tm.getD s Go.undef := by
 rw [qC, qC, Array.getElem?_setIfInBounds_ne (Ne.symm h)]
theorem q1ok {tm : Array Value} {p : Nat} {v : Value} (h : p < tm.size) : (tm.setIfInBounds p v).getD p Go.undef = v := by
 rw [qC, Array.getElem?_setIfInBounds_self_of_lt h]; rfl

theorem Good.caps (g : Good X w0 O0 n S a w hs fp) {f : Operand} {gf : Nat} {cap : List T} (hf : fnA (S.ev f) = some (gf, cap.map A.t)) : ∃ capv : List Value, a.eval f = .func (.func gf) #[] capv.toArray /\ capv.length = cap.length /\ ∀ i (h : i < cap.length), Rd w (Ob X fp) cap[i] (capv.getD i Go.undef) := by
 have h := q09k hf (g.ev f)
 generalize a.eval f = v at h
 cases h with
 | fn hl hr =>
   refine ⟨_, rfl, by simpa using hl, fun i h => ?_⟩
   have := hr i (by simpa using h)
   rw [rQ] at this
   cases this with | t h => exact h
theorem Good.caps' (g : Good X w0 O0 n S a w hs fp) {f : Operand} {gf : Nat} {cap : List T} (hf : fnA (S.ev f) = some (gf, cap.map A.t)) {capv : List Value} (hv : a.eval f = .func (.func gf) #[] capv.toArray) : ∀ i (h : i < cap.length), Rd w (Ob X fp) cap[i] (capv.getD i Go.undef) := by
 obtain ⟨capv', h1, h2, h3⟩ := g.caps hf
 rw [hv] at h1
 have : capv = capv' := by
  injection h1 with _ _ h
  exact List.toArray_inj h
 rw [this]; exact h3

theorem q00a.keepB {ok : Prop} {O : Nat -> Prop} {ds : List Deferred} {w0 w w2 w' : World} {b : Nat} (h : q00a ok O ds w0 w) (h2 : q00a ok O ds w0 w2) (hb : w2.heap.size <= b) (hs : ∀ c, c < w.heap.size -> c ≠ b -> w'.heap[c]? = w.heap[c]?) : q00a ok O ds w0 w' := by
 obtain ⟨Ds, q1, q2, q3, q4⟩ := h2
 obtain ⟨Ds', r1, r2, r3, r4⟩ := h
 refine ⟨Ds, q1, q2, fun D hD => ⟨(q3 D hD).1, ?_⟩, q4⟩
 have hm : (⟨.collected D, #[]⟩ : Deferred) ∈ Ds'.map (fun D => ({ target := .collected D, args := #[] } : Deferred)) := by
  rw [← r2, q2]; exact qN.2 ⟨D, hD, rfl⟩
 obtain ⟨D', hD', e⟩ := qN.1 hm
 have : D' = D := by injection e with e; injection e
 subst this
 have h3 := (r3 D' hD').2
 have h4 := (qF.1 (q3 D' hD).2).1
 rw [hs D' (qF.1 h3).1 (by omega)]; exact h3
theorem Good.ext (g : Good X w0 O0 n S a w hs fp) {w' : World} (hx : Ext w w') {X' : Nat -> Prop} (hX : ∀ b, X' b -> X b ∨ (w.heap.size <= b /\ b < w'.heap.size)) : Good X' w0 O0 n S a w' hs fp :=
 g.world rfl (fun c cs e fz _ hc => (hx.same c (qF.1 hc).1).trans hc) (fun r c hc => hx.same c (g.lt hc)) (fun c h => (hX c h).imp id And.left) (fun c h => by
   rcases hX c h with h | h
   ·exact Nat.lt_of_lt_of_le (g.xold c h) hx.size
   ·exact h.2) (fun c h hc => by
   rcases hX c h with h | h
   ·exact g.xout c h hc
   ·have := g.hist.size; omega) ⟨hx.os.trans g.hist.os, hx.tape.trans g.hist.tape, hx.output.trans g.hist.output, rA g.hist.size hx.size, fun c hc hn => (hx.same c (Nat.lt_of_lt_of_le hc g.hist.size)).trans (g.hist.block c hc hn)⟩ g.mine (g.defers.keep fun D _ h => (hx.same D (qF.1 h).1).trans h)
theorem Good.record (g : Good X w0 O0 n S a w hs fp) {X' : Nat -> Prop} (hXX : ∀ c, X' c -> X c) {l : Nat} {r1 : Loop} (hl : w.heap[l]? = some (.loop r1)) (hl0 : w0.heap.size <= l) (hXl : X l) (o : Obj) : Good X' w0 O0 n S a (w.putObj l o) hs fp := by
 have hsame : ∀ c, c ≠ l -> (w.putObj l o).heap[c]? = w.heap[c]? := fun c hc => World.putObj_heap_other hc
 refine g.world rfl (fun b cs e fz hn hb => ?_) (fun r b hb => hsame b fun e => g.foreign r b hb (e ▸ hXl)) (fun b h => .inl (hXX b h)) (fun b h => by rw [World.putObj_size]; exact g.xold b (hXX b h)) (fun b h hb => g.xout b (hXX b h) hb)
  ⟨g.hist.os, g.hist.tape, g.hist.output, by rw [World.putObj_size]; exact g.hist.size, fun b hb hn => (hsame b (by omega)).trans (g.hist.block b hb hn)⟩ g.mine (g.defers.keep fun D hD h => ?_)
 ·rw [hsame b fun e => hn (.inl (e ▸ hXl))]; exact hb
 ·rw [hsame D fun e => by rw [e, hl] at h; cases h]; exact h
theorem q1n2 (g : Good X w0 O0 n S a w hs fp) {ro : Option Nat} (hro : q00c ro w0 O0) (hmk : ro = none -> O0.mkp) (fn : FuncId) (p : Nat) (ca cb : Code) : ∃ (l : Nat) (mark : List Deferred) (w2 : World) (rec : Loop), (Instr.enterLoop fn a.tmps #[p] ca cb (rF ro).round).run P w = .ok (l, mark) w2 ∧
   (rec.state = .ready /\ rec.pending = none /\ rec.fn = fn /\ rec.tmps = a.tmps /\ rec.params = #[p] /\ rec.assign = ca /\ rec.body = cb) /\ w2.heap[l]? = some (.loop rec) /\ Ext w w2 /\ w.heap.size <= l /\ l < w2.heap.size /\ q00a O0.mkp O0.own (mark ++ a.defers) w0 w2 := by
 cases ro with
 | none =>
   refine ⟨w.heap.size + 1, _, _, { state := .ready, pending := none, fn := fn, tmps := a.tmps, params := #[p], assign := ca, body := cb, defers := w.heap.size }, run_enterLoop_outer (P := P) (w := w) fn a.tmps #[p] ca cb, ⟨rfl, rfl, rfl, rfl, rfl, rfl, rfl⟩, ?_, ⟨by simp; omega, fun c hc => ?_, rfl, rfl, rfl⟩, by omega, by simp, ?_⟩
   ·have := World.alloc_heap_new (w.alloc (.deferred (some []))) (.loop { state := .ready, pending := none, fn, tmps := a.tmps, params := #[p], assign := ca, body := cb, defers := w.heap.size })
    rwa [World.size_alloc] at this
   ·show ((w.heap.push _).push _)[c]? = _
    rw [Array.getElem?_push_lt (by simp; omega), Array.getElem_push_lt hc, Array.getElem?_eq_getElem hc]
   ·obtain ⟨Ds, h1, h2, h3, _⟩ := g.defers
    have hnew : ∀ D ∈ Ds, D < w.heap.size := fun D hD => (qF.1 (h3 D hD).2).1
    refine ⟨w.heap.size :: Ds, qX.2 ⟨fun h => by have := hnew _ h; omega, h1⟩, by rw [h2]; rfl, fun D hD => ?_, fun h => (h (hmk rfl)).elim⟩
    rcases qO.1 hD with rfl | hD
    ·refine ⟨.inl g.hist.size, ?_⟩
     show ((w.heap.push _).push _)[w.heap.size]? = _
     rw [Array.getElem?_push_lt (by simp)]; simp
    ·refine ⟨(h3 D hD).1, ?_⟩
     have hlt := hnew D hD
     show ((w.heap.push _).push _)[D]? = _
     rw [Array.getElem?_push_lt (by simp; omega), Array.getElem_push_lt hlt, ← Array.getElem?_eq_getElem hlt]; exact (h3 D hD).2
 | some l0 =>
   obtain ⟨q1, q2, r0, q3⟩ := hro l0 rfl
   have q4 : w.heap[l0]? = some (.loop r0) := (g.hist.block l0 q1 q2).trans q3
   refine ⟨w.heap.size, _, _, { state := .ready, pending := none, fn := fn, tmps := a.tmps, params := #[p], assign := ca, body := cb, defers := r0.defers }, run_enterLoop_inner (P := P) q4 fn a.tmps #[p] ca cb, ⟨rfl, rfl, rfl, rfl, rfl, rfl, rfl⟩, World.alloc_heap_new _ _, ⟨by simp, fun c hc => ?_, rfl, rfl, rfl⟩, qR _, by simp, ?_⟩
   ·show (w.heap.push _)[c]? = _
    rw [Array.getElem?_push_lt hc, Array.getElem?_eq_getElem hc]
   ·refine g.defers.keep fun D _ hD => ?_
    have hlt := (qF.1 hD).1
    show (w.heap.push _)[D]? = _
    rw [Array.getElem?_push_lt hlt, ← Array.getElem?_eq_getElem hlt]; exact hD
end
end Go.Ab

/- The abstract layer, part 35: the rule for a range over a function. -/
namespace Go.Ab
section
variable {P : Program} {w0 : World} {O0 : Fr} {n : Nat} {a : Act}

def q1k6 (Q : Exit -> St -> Prop) (j : Code) (S' : St) : Prop := (j = .ret /\ Q .ret S') ∨ ∃ id, j = .exit id /\ Q (.exit id) S'

end
end Go.Ab

/- The abstract layer, part 36: iterators: how a body proves what it owes. -/
namespace Go.Ab
section
variable {P : Program} {n : Nat} {H : Hints}

theorem q1r4 {code : Code} {a b : CC} (h : trC P n H code = some (.seq a b)) : ∃ x y, code = .seq x y /\ trC P n H x = some a /\ trC P n H y = some b := by
 unfold trC at h
 split at h <;> (try split at h) <;> (try split at h) <;> (try cases h)
 exact ⟨_, _, rfl, ‹_›, ‹_›⟩
theorem q1r0 {code : Code} {x : Operand} {a b : CC} (h : trC P n H code = some (.cond x a b)) : ∃ y z, code = .cond x y z /\ trC P n H y = some a /\ trC P n H z = some b := by
 unfold trC at h
 split at h <;> (try split at h) <;> (try split at h) <;> (try cases h)
 exact ⟨_, _, rfl, ‹_›, ‹_›⟩
theorem q1qz {code : Code} {i : Nat} {a : CC} (h : trC P n H code = some (.block i a)) : ∃ x, code = .block i x /\ trC P n H x = some a := by
 unfold trC at h
 split at h <;> (try split at h) <;> (try split at h) <;> (try cases h)
 exact ⟨_, rfl, ‹_›⟩
theorem q1r2 {code : Code} {a : CC} (h : trC P n H code = some (.loop a)) : ∃ x, code = .loop x /\ trC P n H x = some a := by
 unfold trC at h
 split at h <;> (try split at h) <;> (try split at h) <;> (try cases h)
 exact ⟨_, rfl, ‹_›⟩
theorem q1r5 {code : Code} (h : trC P n H code = some .skip) : code = .skip := by
 unfold trC at h
 split at h <;> (try split at h) <;> (try split at h) <;> (try cases h)
 rfl
theorem q1r1 {code : Code} {i : Nat} (h : trC P n H code = some (.exit i)) : code = .exit i := by
 unfold trC at h
 split at h <;> (try split at h) <;> (try split at h) <;> (try cases h)
 rfl
theorem q1r3 {code : Code} {l : List CI} (h : trC P n H code = some (.reg l)) : ∃ id ops, code = .region id ops false /\ trR P n ops ops.toList = some l := by
 unfold trC at h
 split at h <;> (try split at h) <;> (try split at h) <;> (try cases h)
 exact ⟨_, _, rfl, ‹_›⟩
theorem q1r7 {ops : Array Oper} {o : Oper} {c : CO} (h : trI P n ops o = some (.o c)) : trO P n o = some c /\ o.guard = none := by
 unfold trI at h
 split at h <;> (try split at h) <;> (try split at h) <;> (try split at h) <;> (try split at h) <;> (try cases h)
 exact ⟨‹_›, ‹_›⟩
theorem q1r6 {d : Option Nat} {c : Call} {d' : Nat} {f : Operand} {as : List Operand} (h : q0vo P d c = some (.call (some d') f as)) : d = some d' /\ c.callee = .value f /\ c.args.toList = as := by
 unfold q0vo at h
 split at h <;> (repeat' split at h) <;> (try cases h)
 exact ⟨rfl, ‹_›, rfl⟩
theorem q1r8 {o : Oper} {d : Nat} {f : Operand} {as : List Operand} (h : trO P n o = some (.call (some d) f as)) : o.dst = some d /\ ∃ c, o.op = .call c /\ c.callee = .value f /\ c.args.toList = as := by
 unfold trO at h
 split at h
 ·rename_i d0 hd0
  split at h
  ·cases hc : trD P d0 o.op with
   | none => rw [hc] at h; cases h
   | some c' =>
     rw [hc] at h
     simp only [Option.getD_some, Option.some.injEq] at h
     subst h
     generalize hop : o.op = op at hc
     unfold trD at hc
     split at hc <;> (try cases hc) <;> (repeat' split at hc) <;> (try cases hc)
     obtain ⟨h1, h2, h3⟩ := q1r6 hc
     cases h1
     exact ⟨hd0, _, rfl, h2, h3⟩
  ·cases h
 ·cases hc : trN P o.op with
  | none => rw [hc] at h; cases h
  | some c' =>
    rw [hc] at h
    simp only [Option.getD_some, Option.some.injEq] at h
    subst h
    generalize hop : o.op = op at hc
    unfold trN at hc
    split at hc <;> (try cases hc) <;> (repeat' split at hc) <;> (try cases hc)
    obtain ⟨h1, _⟩ := q1r6 hc
    cases h1
theorem q1r9 {o : Oper} {d : Nat} {x : Operand} (h : trO P n o = some (.move d x)) : o.dst = some d /\ (o.op = .move x ∨ o.op = .assign x) := by
 unfold trO at h
 split at h
 ·rename_i d0 hd0
  split at h
  ·cases hc : trD P d0 o.op with
   | none => rw [hc] at h; cases h
   | some c' =>
     rw [hc] at h
     simp only [Option.getD_some, Option.some.injEq] at h
     subst h
     generalize hop : o.op = op at hc
     unfold trD at hc
     split at hc <;> (try cases hc) <;> (repeat' split at hc) <;> (try cases hc)
     ·exact ⟨hd0, .inl rfl⟩
     ·exact ⟨hd0, .inr rfl⟩
     ·unfold q0vo at hc
      split at hc <;> (repeat' split at hc) <;> (try cases hc)
  ·cases h
 ·cases hc : trN P o.op with
  | none => rw [hc] at h; cases h
  | some c' =>
    rw [hc] at h
    simp only [Option.getD_some, Option.some.injEq] at h
    subst h
    generalize hop : o.op = op at hc
    unfold trN at hc
    split at hc <;> (try cases hc) <;> (repeat' split at hc) <;> (try cases hc)
    unfold q0vo at hc
    split at hc <;> (repeat' split at hc) <;> (try cases hc)
theorem run_move {o : Oper} {d : Nat} {x : Operand} (h : trO P n o = some (.move d x)) (ρ : Operand -> Value) (w : World) : (execOp ρ o).run P w = .ok (.value (ρ x)) w := by
 rcases (q1r9 h).2 with h | h <;> simp [execOp, h, Sem.run_pure]
theorem q1o5 {o : Oper} {d : Nat} {f y : Operand} (h : trO P n o = some (.call (some d) f [y])) {ρ : Operand -> Value} {l : Nat} (hf : ρ f = .func (.yield l) #[] #[]) {w : World} {fn : FuncId} {tm : Array Value} {as bd : Code} (hy : (Instr.yield l #[ρ y]).run P w = .ok (.round l fn tm as bd) w) :
  (execOp ρ o).run P w = .ok (.round l fn tm as bd) w := by
 obtain ⟨hd, c, hc, h1, h2⟩ := q1r8 h
 have h3 : c.args = #[y] := by rw [← Array.toArray_toList (xs := c.args), h2]
 simp only [execOp, hc, resolve, h1, h3, hf, Deferred.ofValue, Sem.run_bind, Sem.run_pure, Result.andThen_ok, invoke]
 simpa using hy

theorem q1rr {σ : Type} {F : Fence} {c : Code} {Q : Exit -> Act -> World -> Prop} {m0 : Nat} (Inv : σ -> Act -> World -> Prop) (μ : σ -> Nat) {a : Act} {w : World} (s0 : σ) (h0 : Inv s0 a w)
  (round : ∀ s a w, Inv s a w -> c.wpIn F m0 P (Exit.then (fun a' w' => ∃ s', Inv s' a' w' /\ μ s' < μ s) Q) a w) : (Code.loop c).wpIn F m0 P Q a w := by
 intro b k cs hb1 hb2 hb3
 have key : ∀ m s a w, μ s = m -> Inv s a w →
   ∃ e a' w', Q e a' w' /\ ArrivesIn (Machine.fenced P F) P (lone (b.atR a (.code c :: .inLoop c :: k)) cs w) b k cs e a' w' := by
  intro m
  induction m using Nat.strongRecOn with
  | _ m ih =>
    intro s a w hm hi
    obtain ⟨e, a₁, w₁, q, harr⟩ := round s a w hi b (.inLoop c :: k) cs hb1 hb2 hb3
    cases e with
    | normal =>
      obtain ⟨s', hi', hlt⟩ := q
      obtain ⟨e₂, a₂, w₂, hq₂, harr₂⟩ := ih (μ s') (hm ▸ hlt) s' a₁ w₁ rfl hi'
      exact ⟨e₂, a₂, w₂, hq₂, .of_steps (StepsIn.trans harr (.one (fenced_calm hb2 hb3 rfl) stepR_inLoop)) harr₂⟩
    | exit id => exact ⟨_, a₁, w₁, q, .pass (x := .inLoop c) rfl (fun _ _ => .inl (by simp)) harr⟩
    | goto l => exact ⟨_, a₁, w₁, q, .pass (x := .inLoop c) rfl (fun _ _ => .inl (by simp)) harr⟩
    | ret => exact ⟨_, a₁, w₁, q, .pass (x := .inLoop c) rfl (fun _ _ => .inl (by simp)) harr⟩
    | panic ch => exact ⟨_, a₁, w₁, q, .pass (x := .inLoop c) rfl (fun _ _ => .inl (by simp)) harr⟩
    | outgrown => exact ⟨_, a₁, w₁, q, .pass (x := .inLoop c) rfl (fun _ _ => .inl (by simp)) harr⟩
 obtain ⟨e, a', w', hq, harr⟩ := key _ s0 a w rfl h0
 exact ⟨e, a', w', hq, .of_steps (.one (fenced_calm hb2 hb3 rfl) stepR_loop) harr⟩

def q1jz (yv : Value) (cap : List T) (s4 q : Nat) (c : List Int) : St := St.of (enum 0 (A.v yv :: cap.map A.t) ++ [(s4, .own q)]) [(q, .arr 1 (c.map T.i))]
def preQ (n : Nat) (yv : Value) (cap : List T) (s4 : Nat) (cs : List (List Int)) : Exit -> St -> Prop
 | .normal, S => ∃ q c0 l, cs = c0 :: l /\ Weak n S (q1jz yv cap s4 q c0)
 | .ret, S => cs = [] /\ ∃ q c0, c0 ≠ [] /\ Weak n S (q1jz yv cap s4 q c0)
 | _, _ => False
def q1q2 (n : Nat) (yv : Value) (cap : List T) (s4 : Nat) (cs : List (List Int)) (j : Nat) : Exit -> St -> Prop
 | .normal, S => ∃ c', cs[j + 1]? = some c' /\ Weak n S (q1jz yv cap s4 1000000000 c')
 | .ret, _ => j + 1 = cs.length
 | _, _ => False

theorem q1l8 {α : Type} : ∀ {l : List α} {k : Nat} {p : Nat × α}, p ∈ enum k l -> ∃ i, ∃ h : i < l.length, p = (k + i, l[i])
 | [], k, p, h => by simp [enum] at h
 | x :: l, k, p, h => by
   rcases qO.1 h with rfl | h
   ·exact ⟨0, by simp, rfl⟩
   ·obtain ⟨i, hi, rfl⟩ := q1l8 h
    exact ⟨i + 1, by simpa using hi, by simp only [List.getElem_cons_succ]; rw [show k + 1 + i = k + (i + 1) by omega]⟩
theorem q1la {l l' : List (Nat × A)} {i : Nat} (h : ∀ p ∈ l, p.1 ≠ i) : q0ke (l ++ l') i = q0ke l' i := by
 induction l with
 | nil => rfl
 | cons p l ih =>
   show upd (q0ke (l ++ l')) p.1 p.2 i = _
   rw [q0x1 _ _ _ _ (Ne.symm (h p (by simp))), ih fun p hp => h p (by simp [hp])]
theorem q1k0 {yv : Value} {cap : List T} {s4 q : Nat} {c : List Int} (hs4 : cap.length < s4) : (q1jz yv cap s4 q c).env s4 = .own q := by
 show q0ke (enum 0 _ ++ _) s4 = _
 rw [q1la fun p hp => by
  obtain ⟨i, hi, rfl⟩ := q1l8 hp
  simp at hi ⊢; omega]
 show upd _ s4 _ s4 = _
 rw [q0x2]

structure SliceAt (W : World) (v : Value) (b : Nat) (c : List Int) : Prop where
 ex : ∃ len cp cells e, v = .slice (some ⟨b, 0, none⟩) len cp /\ W.heap[b]? = some (.cells cells e (0, 0)) /\ c.length = len /\ len <= cp /\ cp <= maxLen /\ cells.size = cp /\ ∀ i (h : i < c.length), cells.getD i Go.undef = .int .i64 c[i]
theorem q1k1 {X : Nat -> Prop} {w0 : World} {O0 : Fr} {a : Act} {W : World} {hs : Nat -> Option Value} {fp : Nat -> List Nat} {yv : Value} {cap : List T} {s4 q : Nat} {c : List Int} (g : Good X w0 O0 n (q1jz yv cap s4 q c) a W hs fp) (hs4 : cap.length < s4) (hc : c ≠ []) :
  ∃ b, SliceAt W (a.tmps.getD s4 Go.undef) b c /\ hs q = some (a.tmps.getD s4 Go.undef) /\ b ∈ fp q := by
 have h1 := g.env s4
 rw [q1k0 hs4] at h1
 have h2 := h1.own_inv
 have h3 := g.root q
 have e : (q1jz yv cap s4 q c).roots q = .live (.arr 1 (c.map T.i)) [] := by
  show upd _ q _ q = _
  rw [q0x2]
 rw [e] at h3
 obtain ⟨x, hx, ho, _⟩ := h3
 rw [h2] at hx
 have hx : a.tmps.getD s4 Go.undef = x := Option.some.inj hx
 rw [h2, hx]
 generalize hfq : fp q = f at ho
 generalize hL : c.map T.i = L at ho
 cases ho with
 | rd h => cases h
 | arrNil => cases c <;> simp at hL hc
 | arr s l b len cp cells e fps hb hl hcl hm hsz hf hr =>
   subst hL
   refine ⟨b, ⟨len, cp, cells, e, rfl, hb, by simpa using hl, hcl, hm, by simpa using hsz, fun i h => ?_⟩, rfl, by simp⟩
   have := hr i (by simpa using h)
   rw [rQ] at this
   generalize fps.getD i [] = ff at this
   generalize cells.getD i Go.undef = y at this ⊢
   cases this with
   | rd h => cases h; rfl

theorem SliceAt.rd {W : World} {v : Value} {b : Nat} {c : List Int} (h : SliceAt W v b c) : Rd W (fun x => x ≠ b) (.sh 1 (c.map T.i)) v := by
 obtain ⟨len, cp, cells, e, rfl, h1, h2, h3, h4, h5, h6⟩ := h.ex
 refine .sh 1 _ b 0 len cp cells e (0, 0) (fun h => h rfl) h1 (by simp; omega) (by simpa using h2) h3 fun i h => ?_
 rw [rQ, Nat.zero_add, h6 i (by simpa using h)]
 exact .v _
theorem SliceAt.same {W W' : World} {v : Value} {b : Nat} {c : List Int} (h : SliceAt W v b c) (hb : W'.heap[b]? = W.heap[b]?) : SliceAt W' v b c := by
 obtain ⟨len, cp, cells, e, h0, h1, h2⟩ := h.ex
 exact ⟨len, cp, cells, e, h0, hb.trans h1, h2⟩
theorem SliceAt.blk {W W' : World} {v : Value} {b b' : Nat} {c c' : List Int} (h : SliceAt W v b c) (h' : SliceAt W' v b' c') : b' = b := by
 obtain ⟨_, _, _, _, h0, _⟩ := h.ex
 obtain ⟨_, _, _, _, h0', _⟩ := h'.ex
 rw [h0] at h0'; cases h0'; rfl
theorem SliceAt.one {W : World} {v : Value} {b : Nat} {c : List Int} (h : SliceAt W v b c) : v.oneCell' = true := by
 obtain ⟨_, _, _, _, rfl, _⟩ := h.ex; rfl

structure ItAt (n : Nat) (yv : Value) (capv : List Value) (s4 : Nat) (vs : Value) (a : Act) : Prop where
 size : a.tmps.size = n
 defers : a.defers = []
 s0 : a.tmps.getD 0 Go.undef = yv
 cp : ∀ i, i < capv.length -> a.tmps.getD (i + 1) Go.undef = capv.getD i Go.undef
 s4 : a.tmps.getD s4 Go.undef = vs

theorem q1k2 {a : Act} {W : World} {yv vs : Value} {cap : List T} {capv : List Value} {s4 b : Nat} {c : List Int} (ha : ItAt n yv capv s4 vs a) (hcl : capv.length = cap.length) (hs4 : cap.length < s4) (hsm : n <= 100000)
  (hrd : ∀ i (h : i < cap.length), Rd W (fun x => x = b) cap[i] (capv.getD i Go.undef)) (hv : SliceAt W vs b c) :
  Good (fun _ => False) W ⟨fun x => ∃ j, x ∈ (fun r : Nat => if r = 1000000000 then [b] else []) j, fun r => if r = 1000000000 then some vs else none, False⟩ n (q1jz yv cap s4 1000000000 c) a W (fun r => if r = 1000000000 then some vs else none) (fun r => if r = 1000000000 then [b] else []) := by
 have ea : a = { tmps := a.tmps, defers := [] } := by rw [← ha.defers]
 have hOb : ∀ x, Ob (fun _ => False) (fun r : Nat => if r = 1000000000 then [b] else []) x -> x = b := by
  rintro x (h | ⟨r, h⟩)
  ·exact h.elim
  ·have h : x ∈ (if r = 1000000000 then [b] else []) := h
   split at h
   ·simpa using h
   ·simp at h
 have hm : Mem (fun _ => False) W [.arr 1 (c.map T.i)] (fun r => if r = 1000000000 then some vs else none) (fun r => if r = 1000000000 then [b] else []) := by
  refine ⟨fun i t hi => ?_, fun r hr => ?_, fun r r' x h h' => ?_, fun r => ?_, fun r x h => fun h => h, fun x h => h.elim, fun r h hr => ?_⟩
  ·cases i with
   | succ i => simp at hi
   | zero =>
     simp only [List.getElem?_cons_zero, Option.some.injEq] at hi
     subst hi
     refine ⟨vs, if_pos rfl, ?_, rfl⟩
     obtain ⟨len, cp, cells, e, rfl, h1, h2, h3, h4, h5, h6⟩ := hv.ex
     have := Ow.arr (w := W) (O := Ob (fun _ => False) (fun r : Nat => if r = 1000000000 then [b] else [])) 1 (c.map T.i) b len cp cells e (c.map fun _ => []) h1 (by simpa using h2) h3 h4 (by simpa using h5) (by simp) (fun i h => by
      have hi : i < c.length := by simpa using h
      rw [rQ, h6 i hi, show (c.map fun _ => ([] : List Nat)).getD i [] = [] by simp [qA, hi]]
      exact .rd (.v _))
     rw [show (c.map fun _ => ([] : List Nat)).flatten = [] from List.flatten_eq_nil_iff.2 fun l hl => by obtain ⟨_, _, rfl⟩ := qN.1 hl; rfl] at this
     exact this
  ·have : r ≠ 1000000000 := by
    simp only [List.length_cons, List.length_nil] at hr; omega
   exact ⟨if_neg this, if_neg this⟩
  ·by_cases e1 : r = 1000000000
   ·by_cases e2 : r' = 1000000000
    ·rw [e1, e2]
    ·rw [if_neg e2] at h'; cases h'
   ·rw [if_neg e1] at h; cases h
  ·split
   ·exact qX.2 ⟨List.not_mem_nil, List.nodup_nil⟩
   ·exact List.nodup_nil
  ·split at hr
   ·cases hr; exact hv.one
   ·cases hr
 have := hm.good (n := n) (mkp := False) (tm := a.tmps) (l := enum 0 (A.v yv :: cap.map A.t) ++ [(s4, .own 1000000000)]) ha.size hsm (fun s hs => by
  rcases qI.1 hs with hs | hs
  ·obtain ⟨i, hi, rfl⟩ := q1l8 hs
   rw [Nat.zero_add]
   cases i with
   | zero =>
     show Is _ _ _ (A.v yv) (a.tmps.getD 0 Go.undef)
     rw [ha.s0]; exact .t (.v _)
   | succ i =>
     have hi' : i < cap.length := by simpa using hi
     show Is _ _ _ ((A.v yv :: cap.map A.t)[i + 1]) (a.tmps.getD (i + 1) Go.undef)
     rw [List.getElem_cons_succ, rQ, ha.cp i (by omega)]
     exact .t ((hrd i hi').mono (fun _ _ _ _ _ h => h) fun x hx _ h => hx (hOb x h))
  ·simp only [List.mem_singleton] at hs
   subst hs
   show Is _ _ _ (.own 1000000000) (a.tmps.getD s4 Go.undef)
   rw [ha.s4]; exact .own (by simp))
 rw [ea]; exact this

theorem trR3 {ops : Array Oper} {os : List Oper} {x y z : CI} (h : trR P n ops os = some [x, y, z]) : ∃ o0 o1 o2, os = [o0, o1, o2] /\ trI P n ops o0 = some x /\ trI P n ops o1 = some y /\ trI P n ops o2 = some z /\ dfr o0.op = false /\ dfr o1.op = false /\ dfr o2.op = false := by
 obtain ⟨hl, hg⟩ := q0vy h
 have hd := q0vx h
 obtain ⟨o0, o1, o2, rfl⟩ : ∃ o0 o1 o2, os = [o0, o1, o2] := by
  clear h hg hd
  rcases os with _ | ⟨o0, _ | ⟨o1, _ | ⟨o2, _ | ⟨o3, os⟩⟩⟩⟩
  ·cases hl
  ·cases hl
  ·cases hl
  ·exact ⟨o0, o1, o2, rfl⟩
  ·simp at hl
 exact ⟨o0, o1, o2, rfl, hg 0 (by simp) (by simp), hg 1 (by simp) (by simp), hg 2 (by simp) (by simp), hd o0 (by simp), hd o1 (by simp), hd o2 (by simp)⟩
theorem ItAt.put {yv vs : Value} {capv : List Value} {s4 d : Nat} {a : Act} (h : ItAt n yv capv s4 vs a) (hd : capv.length < d) (h4 : d ≠ s4) (v : Value) : ItAt n yv capv s4 vs (a.put (some d) v) := by
 refine ⟨by show (a.tmps.setIfInBounds d v).size = n; simp [h.size], h.defers, ?_, fun i hi => ?_, ?_⟩
 ·show (a.tmps.setIfInBounds d v).getD 0 Go.undef = yv
  rw [q1oj (by omega)]; exact h.s0
 ·show (a.tmps.setIfInBounds d v).getD (i + 1) Go.undef = _
  rw [q1oj (by omega)]; exact h.cp i hi
 ·show (a.tmps.setIfInBounds d v).getD s4 Go.undef = vs
  rw [q1oj (Ne.symm h4)]; exact h.s4
theorem ItAt.same {yv vs vs' : Value} {capv : List Value} {s4 : Nat} {a a' : Act} (h : ItAt n yv capv s4 vs a) {l : List Nat} (hs : Same l a a') (hl : ∀ s, s <= capv.length -> s ∉ l) (hsz : a'.tmps.size = n) (hd : a'.defers = []) (h4 : a'.tmps.getD s4 Go.undef = vs') : ItAt n yv capv s4 vs' a' :=
 ⟨hsz, hd, (hs 0 (hl 0 (Nat.zero_le _))).trans h.s0, fun i hi => (hs (i + 1) (hl _ hi)).trans (h.cp i hi), h4⟩

theorem q1rw {id : Nat} {ops : Array Oper} {d0 d1 d2 s4 l : Nat} (hops : trR P n ops ops.toList = some [.o (.move d0 (.tmp 0)), .o (.move d1 (.tmp s4)), .o (.call (some d2) (.tmp d0) [.tmp d1])]) {a : Act} {W : World} {Q : Exit -> Act -> World -> Prop} {fn : FuncId} {tm : Array Value} {as bd : Code}
  (h0 : a.tmps.getD 0 Go.undef = .func (.yield l) #[] #[]) (hd0 : d0 < a.tmps.size) (hd1 : d1 < a.tmps.size) (h01 : d0 ≠ d1) (h4 : s4 ≠ d0) (hy : (Instr.yield l #[a.tmps.getD s4 Go.undef]).run P W = .ok (.round l fn tm as bd) W)
  (hr : RoundIn Fence.wide 0 P l fn tm as bd W fun e W' => ∃ v, e = .returned v /\ Q .normal (((a.put (some d0) (.func (.yield l) #[] #[])).put (some d1) (a.tmps.getD s4 Go.undef)).put (some d2) v) W') : (Code.region id ops false).wpIn Fence.wide 0 P Q a W := by
 obtain ⟨o0, o1, o2, hol, t0, t1, t2, e0, e1, e2⟩ := trR3 hops
 have hsz3 : ops.size = 3 := by rw [← Array.length_toList, hol]; rfl
 have k0 : ops[0]? = some o0 := by rw [← Array.getElem?_toList, hol]; rfl
 have k1 : ops[1]? = some o1 := by rw [← Array.getElem?_toList, hol]; rfl
 have k2 : ops[2]? = some o2 := by rw [← Array.getElem?_toList, hol]; rfl
 obtain ⟨t0, u0⟩ := q1r7 t0
 obtain ⟨t1, u1⟩ := q1r7 t1
 obtain ⟨t2, u2⟩ := q1r7 t2
 have v0 := (q1r9 t0).1
 have v1 := (q1r9 t1).1
 have v2 := (q1r8 t2).1
 have w0 : ∀ (o : Oper) (tm : Array Value), o.guard = none -> Region.wanted o (yielded ops tm) = true := fun o tm h => by simp [Region.wanted, h]
 have ev0 : a.eval (.tmp 0) = .func (.yield l) #[] #[] := h0
 refine wpIn_region ?_
 rw [hsz3, show List.range 3 = [0, 1, 2] from rfl]
 simp only [wpOpsIn, k0, k1, k2]
 rw [if_pos (w0 o0 _ u0)]
 refine ⟨fun f _ => trivial, ?_⟩
 rw [Oper.semAt_eq _ _ _ (q081 e0), run_move t0, Oper.uponIn_value, ev0, v0]
 rw [if_pos (w0 o1 _ u1)]
 refine ⟨fun f _ => trivial, ?_⟩
 rw [Oper.semAt_eq _ _ _ (q081 e1), run_move t1, Oper.uponIn_value, v1]
 have ev1 : (a.put (some d0) (.func (.yield l) #[] #[])).eval (.tmp s4) = a.tmps.getD s4 Go.undef := q1oj h4
 rw [ev1, if_pos (w0 o2 _ u2)]
 refine ⟨fun f _ => trivial, ?_⟩
 have ev2 : ((a.put (some d0) (.func (.yield l) #[] #[])).put (some d1) (a.tmps.getD s4 Go.undef)).eval (.tmp d0) = .func (.yield l) #[] #[] := by
  show ((a.tmps.setIfInBounds d0 _).setIfInBounds d1 _).getD d0 Go.undef = _
  rw [q1oj h01, q1ok hd0]
 have ev3 : ((a.put (some d0) (.func (.yield l) #[] #[])).put (some d1) (a.tmps.getD s4 Go.undef)).eval (.tmp d1) = a.tmps.getD s4 Go.undef := by
  show ((a.tmps.setIfInBounds d0 _).setIfInBounds d1 _).getD d1 Go.undef = _
  rw [q1ok (by simpa using hd1)]
 rw [Oper.semAt_eq _ _ _ (q081 e2), q1o5 (ρ := ((a.put (some d0) (.func (.yield l) #[] #[])).put (some d1) (a.tmps.getD s4 Go.undef)).eval) t2 ev2 (by rw [ev3]; exact hy), Oper.uponIn_round]
 refine ⟨fun h => (by cases h), hr.mono ?_⟩
 rintro e W' ⟨v, rfl, h⟩
 rw [v2]; exact h

theorem Iter.of {f : FuncId} {fn : Func} {code : Code} {c1 c2 c3 cB : CC} {i2 d0 d1 d2 s4 : Nat} (hf : P.funcs[f]? = some fn) (hb : fn.body = some code) (hn : fn.ntmps = n) (hres : fn.results = #[])
  (hc : trC P n H code = some (.seq c1 (.seq c2 (.seq c3 (.block i2 (.loop (.seq (.seq (.reg [.o (.move d0 (.tmp 0)), .o (.move d1 (.tmp s4)), .o (.call (some d2) (.tmp d0) [.tmp d1])]) (.cond (.tmp d2) .skip (.exit i2))) cB)))))))
  (hno : q0pq code = false) {cap : List T} {cs : List (List Int)} (hsm : n <= 100000) (hne : ∀ c ∈ cs, c ≠ []) (hs4 : cap.length < s4) (hd0 : d0 < n /\ cap.length < d0 /\ d0 ≠ s4) (hd1 : d1 < n /\ cap.length < d1 /\ d1 ≠ s4 /\ d1 ≠ d0) (hd2 : d2 < n /\ cap.length < d2 /\ d2 ≠ s4) {m : Nat} (hcm : cap.length = m) (hdst : ((dstC code).all fun d => decide (m < d)) = true) (hcn : cap.length < n)
  (pre : ∀ l : Nat, cW P n c1 (q0um (cW P n c2 (q0um (cW P n c3 (preQ n (.func (.yield l) #[] #[]) cap s4 cs)) (preQ n (.func (.yield l) #[] #[]) cap s4 cs))) (preQ n (.func (.yield l) #[] #[]) cap s4 cs)) (St.of (enum 0 (A.v (.func (.yield l) #[] #[]) :: cap.map A.t)) []))
  (step : ∀ (l j : Nat) (c : List Int), cs[j]? = some c -> cW P n cB (q1q2 n (.func (.yield l) #[] #[]) cap s4 cs j) (q1jz (.func (.yield l) #[] #[]) cap s4 1000000000 c)) :
  Iter P f cap (cs.map fun c => .sh 1 (c.map T.i)) := by
 intro O w capv hcl hrd l J Jx hstart habide hround
 obtain ⟨a1, r1, rfl, ha1, hr1⟩ := q1r4 hc
 obtain ⟨a2, r2, rfl, ha2, hr2⟩ := q1r4 hr1
 obtain ⟨a3, r3, rfl, ha3, hr3⟩ := q1r4 hr2
 obtain ⟨r4, rfl, hr4⟩ := q1qz hr3
 obtain ⟨r5, rfl, hr5⟩ := q1r2 hr4
 obtain ⟨r6, kB, rfl, hr6, hkB⟩ := q1r4 hr5
 obtain ⟨r7, r8, rfl, hr7, hr8⟩ := q1r4 hr6
 obtain ⟨id, ops, rfl, hops⟩ := q1r3 hr7
 obtain ⟨y1, y2, rfl, hy1, hy2⟩ := q1r0 hr8
 have hy1 := q1r5 hy1
 have hy2 := q1r1 hy2
 subst hy1 hy2
 simp only [q0pq, Bool.or_eq_false_iff] at hno
 obtain ⟨n1, n2, n3, _, n4⟩ := hno
 have hdst' : ∀ s, s <= cap.length -> s ∉ dstC a1 /\ s ∉ dstC a2 /\ s ∉ dstC a3 /\ s ∉ dstC kB := fun s hs => by
  have := show s ∉ dstC _ from fun hm => by have := rO.1 hdst s hm; simp at this; omega
  simp only [dstC, qI, not_or] at this
  exact ⟨this.1, this.2.1, this.2.2.1, this.2.2.2.2⟩
 generalize hyv : (Value.func (.yield l) #[] #[]) = yv at *
 have hpre := pre l
 rw [hyv] at hpre
 -- what is to be shown at the end
 let R : Ending -> World -> Prop := fun e W' => (∃ v, e = .returned v) /\ ((∃ b, J b (cs.map fun c => T.sh 1 (c.map T.i)).length W') ∨ Jx W')
 have hlen : (cs.map fun c => T.sh 1 (c.map T.i)).length = cs.length := by simp
 have hfin : ∀ (a : Act) (W : World), a.defers = [] -> ((∃ b, J b cs.length W) ∨ Jx W) -> LeavesInM Fence.wide 0 P fn a.tmps R a.defers .returning W := fun a W hd h => by
  rw [hd]
  refine q0hw ⟨.tuple #[], ?_, ⟨_, rfl⟩, by rw [hlen]; exact h⟩
  unfold results
  rw [hres]
  simp [Sem.run_pure, Sem.run_bind]
 refine callsIn_wide.1 (callsIn_of_wp_marks (F := Fence.wide) (n := 0) hf hb trivial ?_)
 refine wpIn_mono (Q := fun e a W => (e = .normal ∨ e = .ret) /\ a.defers = [] /\ ((∃ b, J b cs.length W) ∨ Jx W)) ?_ (by
  rintro e a W ⟨h1 | h1, h2, h3⟩ <;> subst h1 <;> exact hfin a W h2 h3)
 let O0 : Fr := ⟨fun x => ∃ j, x ∈ (fun _ : Nat => ([] : List Nat)) j, fun _ => none, False⟩
 have hO0 : ∀ x, ¬ O0 x := fun x ⟨j, h⟩ => by simp at h
 generalize hA : ({ tmps := #[yv] ++ capv.toArray ++ Array.replicate (fn.ntmps - (#[yv] ++ capv.toArray).size) Go.undef, defers := [] } : Act) = ac
 have hsize : ac.tmps.size = n := by rw [← hA]; simp; omega
 have hA0 : ac.tmps.getD 0 Go.undef = yv := by rw [← hA]; simp [qC, Array.getElem?_append]
 have hAc : ∀ i, i < capv.length -> ac.tmps.getD (i + 1) Go.undef = capv.getD i Go.undef := fun i hi => by
  rw [← hA]
  simp [qC, qA, Array.getElem?_append, hi]
 have hAd : ac.defers = [] := by rw [← hA]
 have g0 : Good (fun _ => False) w O0 n (St.of (enum 0 (A.v yv :: cap.map A.t)) []) ac w (fun _ => none) (fun _ => []) := by
  have hm : Mem (fun _ => False) w [] (fun _ => none) (fun _ => []) := ⟨fun i t h => by simp at h, fun r _ => ⟨rfl, rfl⟩, fun r r' b h => by simp at h, fun _ => List.nodup_nil, fun r b h => by simp at h, fun b h => h.elim, fun r h hr => by cases hr⟩
  have := hm.good (n := n) (mkp := False) (tm := ac.tmps) (l := enum 0 (A.v yv :: cap.map A.t)) hsize hsm fun s hs => by
   obtain ⟨i, hi, rfl⟩ := q1l8 hs
   rw [Nat.zero_add]
   cases i with
   | zero =>
     show Is _ _ _ (A.v yv) (ac.tmps.getD 0 Go.undef)
     rw [hA0]; exact .t (.v _)
   | succ i =>
     have hi' : i < cap.length := by simpa using hi
     show Is _ _ _ ((A.v yv :: cap.map A.t)[i + 1]) (ac.tmps.getD (i + 1) Go.undef)
     rw [List.getElem_cons_succ, rQ, hAc i (by omega)]
     exact .t ((hrd i hi').mono (fun _ _ _ _ _ h => h) fun x _ _ h => by
      rcases h with h | ⟨r, h⟩
      ·exact h
      ·simp at h)
  rw [show ac = { tmps := ac.tmps, defers := [] } by rw [← hAd]]
  exact this
 have hext : ∀ {S' a' W' hs' fp'}, Good (fun _ => False) w O0 n S' a' W' hs' fp' -> Ext w W' := fun g => ⟨g.hist.size, fun c hc => g.hist.block c hc (hO0 c), g.hist.os, g.hist.tape, g.hist.output⟩
 have hnod : ∀ {S' a' W' hs' fp'}, Good (fun _ => False) w O0 n S' a' W' hs' fp' -> a'.defers = [] := fun g => g.defers.none (fun h => h)
 -- what the state ahead of the loop says of memory
 have hat : ∀ {q : Nat} {c : List Int} {a' W' hs' fp'}, Good (fun _ => False) w O0 n (q1jz yv cap s4 q c) a' W' hs' fp' -> c ≠ [] -> ∃ b, SliceAt W' (a'.tmps.getD s4 Go.undef) b c /\ w.heap.size <= b /\ J b 0 W' := by
  intro q c a' W' hs' fp' g hc
  obtain ⟨b, h1, h2, h3⟩ := q1k1 g hs4 hc
  have hwb : w.heap.size <= b := (g.mine q b h3).resolve_left (hO0 b)
  obtain ⟨_, _, _, _, _, h4, _⟩ := h1.ex
  exact ⟨b, h1, hwb, hstart W' b hwb (qF.1 h4).1 (hext g)⟩
 have hret : ∀ {S' a' W' hs' fp'}, Good (fun _ => False) w O0 n S' a' W' hs' fp' -> preQ n yv cap s4 cs .ret S' -> a'.defers = [] /\ ((∃ b, J b cs.length W') ∨ Jx W') := by
  rintro S' a' W' hs' fp' g ⟨rfl, q, c0, hc0, hw⟩
  obtain ⟨hs2, fp2, g2⟩ := hw _ _ _ _ _ _ _ g
  obtain ⟨b, _, _, hJ⟩ := hat g2 hc0
  exact ⟨hnod g, .inl ⟨b, hJ⟩⟩
 have hn0 : ∀ {k : Code}, q0pq k = false -> (q0pq k = true -> (none : Option Nat) = none -> O0.mkp) := fun h h' => by rw [h] at h'; cases h'
 refine wpIn_seq (wpIn_mono (q031 _ _ _ hpre _ _ ha1 _ w O0 ac w _ _ g0 none (q00c.no _ _) (hn0 n1)) ?_)
 rintro e b1 W1 ⟨⟨S1, hs1, fp1, g1, q1⟩, m1⟩
 cases e with
 | ret => exact ⟨.inr rfl, hret g1 q1⟩
 | normal =>
   refine wpIn_seq (wpIn_mono (q031 _ _ _ q1 _ _ ha2 _ w O0 b1 W1 _ _ g1 none (q00c.no _ _) (hn0 n2)) ?_)
   rintro e b2 W2 ⟨⟨S2, hs2, fp2, g2, q2⟩, m2⟩
   cases e with
   | ret => exact ⟨.inr rfl, hret g2 q2⟩
   | normal =>
     refine wpIn_seq (wpIn_mono (q031 _ _ _ q2 _ _ ha3 _ w O0 b2 W2 _ _ g2 none (q00c.no _ _) (hn0 n3)) ?_)
     rintro e b3 W3 ⟨⟨S3, hs3, fp3, g3, q3⟩, m3⟩
     cases e with
     | ret => exact ⟨.inr rfl, hret g3 q3⟩
     | normal =>
       obtain ⟨q, c0, l', hcs, hwk⟩ := q3
       obtain ⟨hs4', fp4, g4⟩ := hwk _ _ _ _ _ _ _ g3
       have hc0 : c0 ≠ [] := hne c0 (by rw [hcs]; simp)
       obtain ⟨b, hsl, hwb, hJ⟩ := hat g4 hc0
       have hit0 : ItAt n yv capv s4 (b3.tmps.getD s4 Go.undef) b3 := by
        have mm : Same (dstC a1 ++ dstC a2 ++ dstC a3) ac b3 := (m1.mono fun s h => by simp [h]).trans ((m2.mono fun s h => by simp [h]).trans (m3.mono fun s h => by simp [h]))
        exact ItAt.same (vs := ac.tmps.getD s4 Go.undef) ⟨hsize, hAd, hA0, hAc, rfl⟩ mm (fun s hs => by
         obtain ⟨x1, x2, x3, _⟩ := hdst' s (by omega)
         simp [x1, x2, x3]) g4.size (hnod g4) rfl
       have hrd0 : ∀ i (h : i < cap.length), Rd W3 (fun x => x = b) cap[i] (capv.getD i Go.undef) := fun i h =>
        (hrd i h).mono (fun x cs e fz _ hx => ((hext g4).same x (qF.1 hx).1).trans hx) fun x _ hx e => by omega
       refine wpIn_block (q1rr (σ := Nat) (fun j a W => ∃ c b vs, cs[j]? = some c /\ ItAt n yv capv s4 vs a /\ SliceAt W vs b c /\ (∀ i (h : i < cap.length), Rd W (fun x => x = b) cap[i] (capv.getD i Go.undef)) /\ J b j W /\ w.heap.size <= b) (fun j => cs.length - j) 0 ⟨c0, b, _, by rw [hcs]; rfl, hit0, hsl, hrd0, hJ, hwb⟩ ?_)
       rintro j a W ⟨c, b, vs, hj, hit, hsl, hrdW, hJW, hbw⟩
       have hcne := hne c (qE hj)
       have hjl : j < cs.length := (qK.1 hj).1
       obtain ⟨fn', tm, as, bd, hyl, hrnd⟩ := hround b j W vs (by rw [hlen]; exact hjl) hJW hbw (by
        rw [rQ, show cs[j] = c from by rw [qB hjl] at hj; exact Option.some.inj hj]; exact hsl.rd)
       rw [← hit.s4] at hyl
       refine wpIn_seq (wpIn_seq (q1rw (l := l) hops (hit.s0.trans hyv.symm) (by rw [hit.size]; exact hd0.1) (by rw [hit.size]; exact hd1.1) (Ne.symm hd1.2.2.2) (Ne.symm hd0.2.2) hyl (hrnd.mono ?_)))
       rw [hyv, hit.s4]
       have hputs : ∀ v, ItAt n yv capv s4 vs (((a.put (some d0) yv).put (some d1) vs).put (some d2) v) := fun v => ((hit.put (by omega) hd0.2.2 _).put (by omega) hd1.2.2.1 _).put (by omega) hd2.2.2 _
       have hev : ∀ v, (((a.put (some d0) yv).put (some d1) vs).put (some d2) v).eval (.tmp d2) = v := fun v => by
        show (((a.tmps.setIfInBounds d0 _).setIfInBounds d1 _).setIfInBounds d2 v).getD d2 Go.undef = _
        rw [q1ok (by simp [hit.size]; exact hd2.1)]
       rintro e W' (⟨rfl, hJ', hsz', hbs, hrd'⟩ | ⟨rfl, hJx⟩)
       ·refine ⟨_, rfl, ?_⟩
        have hit2 := hputs (.bool true)
        have hev2 := hev (.bool true)
        generalize (((a.put (some d0) yv).put (some d1) vs).put (some d2) (.bool true)) = a2 at hit2 hev2 ⊢
        have g5 := q1k2 hit2 hcl hs4 hsm hrd' (hsl.same hbs)
        show (Code.cond (.tmp d2) .skip (.exit i2)).wpIn _ _ _ _ a2 W'
        refine wpIn_cond_true hev2 (wpIn_skip ?_)
        have hst := step l j c hj
        rw [hyv] at hst
        refine wpIn_mono (q031 _ _ _ hst _ _ hkB _ W' _ a2 W' _ _ g5 none (q00c.no _ _) (fun h => by rw [n4] at h; cases h)) ?_
        rintro e a3 W3' ⟨⟨S5, hs5, fp5, g6, q⟩, m5⟩
        have hd3 : a3.defers = [] := g6.defers.none (fun h => h)
        have hOb : ∀ x, (∃ j, x ∈ (fun r : Nat => if r = 1000000000 then [b] else []) j) -> x = b := by
         rintro x ⟨r, h⟩
         have h : x ∈ (if r = 1000000000 then [b] else []) := h
         split at h
         ·simpa using h
         ·cases h
        have hExt : ExtB b W' W3' := ⟨g6.hist.size, fun x hx hxb => g6.hist.block x hx fun h => hxb (hOb x h), g6.hist.os, g6.hist.tape, g6.hist.output⟩
        have hJ3 := habide b (j + 1) W' W3' hJ' hExt
        cases e with
        | normal =>
          obtain ⟨c', hc', hwk⟩ := q
          obtain ⟨hs7, fp7, g7⟩ := hwk _ _ _ _ _ _ _ g6
          obtain ⟨b', hsl', hh, _⟩ := q1k1 g7 hs4 (hne c' (qE hc'))
          have hp := g7.pin 1000000000 _ (qR _) hh
          have hvs : a3.tmps.getD s4 Go.undef = vs := by
           have hp : (if (1000000000 : Nat) = 1000000000 then some vs else none) = some (a3.tmps.getD s4 Go.undef) := hp
           rw [if_pos rfl] at hp; exact (Option.some.inj hp).symm
          rw [hvs] at hsl'
          have hbb := hsl.blk hsl'
          subst hbb
          refine ⟨j + 1, ⟨c', _, vs, hc', hit2.same m5 (fun s hs => (hdst' s (by omega)).2.2.2) g6.size hd3 hvs, hsl', fun i h => (hrd' i h).mono (fun x cs e fz hx h => ?_) fun x hx _ => hx, hJ3, hbw⟩, by omega⟩
          rw [hExt.same x (qF.1 h).1 hx]; exact h
        | ret =>
          have q : j + 1 = cs.length := q
          rw [q] at hJ3
          exact ⟨.inr rfl, hd3, .inl ⟨b, hJ3⟩⟩
        | exit id => exact q.elim
        | goto id => exact q.elim
        | panic id => exact q.elim
        | outgrown => exact q.elim
       ·refine ⟨_, rfl, ?_⟩
        have hit2 := hputs (.bool false)
        have hev2 := hev (.bool false)
        generalize (((a.put (some d0) yv).put (some d1) vs).put (some d2) (.bool false)) = a2 at hit2 hev2 ⊢
        show (Code.cond (.tmp d2) .skip (.exit i2)).wpIn _ _ _ _ a2 W'
        refine wpIn_cond_false hev2 (wpIn_exit ?_)
        show if i2 = i2 then _ else _
        rw [if_pos rfl]
        exact ⟨.inl rfl, hit2.defers, .inr hJx⟩
     | exit id => exact q3.elim
     | goto id => exact q3.elim
     | panic id => exact q3.elim
     | outgrown => exact q3.elim
   | exit id => exact q2.elim
   | goto id => exact q2.elim
   | panic id => exact q2.elim
   | outgrown => exact q2.elim
 | exit id => exact q1.elim
 | goto id => exact q1.elim
 | panic id => exact q1.elim
 | outgrown => exact q1.elim
end
end Go.Ab

/- The abstract layer, part 40: iterators that range over iterators themselves: what they hand over while their own frames wait. -/
namespace Go.Ab

def q1qm (ops : Array Oper) : Bool :=
 decide (2 <= ops.size) && (List.range (ops.size - 2)).all (fun j => ((q00w [] (afOf ops)).getD (ops.size - 2) []).contains j) && ((afOf ops).getD (ops.size - 2 + 1) []).contains (ops.size - 2)
def q1jx (ops : Array Oper) : Bool := match ops[ops.size - 2]? with
 | some o => (match o.op with | .call c => (match c.callee with | .value _ => true | _ => false) | _ => false)
 | none => false
def ychk : Code -> Bool
 | .region _ ops true => !q1jx ops || q1qm ops
 | .seq a b | .cond _ a b | .rangeFunc _ _ a b => ychk a && ychk b
 | .block _ c | .loop c => ychk c
 | _ => true

structure OwnMv (B B' : Nat -> Prop) (W W' : World) : Prop where
 size : W.heap.size <= W'.heap.size
 same : ∀ c, c < W.heap.size -> ¬ B c -> W'.heap[c]? = W.heap[c]?
 grow : ∀ c, B' c -> B c ∨ W.heap.size <= c
 lt : ∀ c, B' c -> c < W'.heap.size
 os : W'.os = W.os
 tape : W'.tape = W.tape
 output : W'.output = W.output
structure Moves (X X' : Nat -> Prop) (W W' : World) : Prop where
 size : W.heap.size <= W'.heap.size
 same : ∀ c, c < W.heap.size -> ¬ X c -> W'.heap[c]? = W.heap[c]?
 grow : ∀ c, X' c -> X c ∨ W.heap.size <= c
 lt : ∀ c, X' c -> c < W'.heap.size

abbrev JT := (Nat -> Prop) -> (Nat -> Prop) -> Option Nat -> World -> Prop
structure Cl (P : Program) (l : Nat) (ys : List T) (J : JT) : Prop where
 own : ∀ {B B' X m W W'}, J B X m W -> (∀ c, B c -> ¬ X c) -> OwnMv B B' W W' -> J B' X m W'
 yield : ∀ {B X i y v W}, J B X (some i) W -> ys[i]? = some y -> (∀ c, B c -> ¬ X c /\ c < W.heap.size) -> Rd W (fun c => ¬ B c) y v -> YieldAt Fence.wide 0 P l #[v] W fun e W' => ∃ b X', e = .returned (.bool b) /\ J B X' (if b then some (i + 1) else none) W' /\ Moves X X' W W'

def q19j (P : Program) (gf : FuncId) (cap ys : List T) : Prop :=
 ∀ (X : Nat -> Prop) (w : World) (capv : List Value), capv.length = cap.length -> (∀ c, X c -> c < w.heap.size) -> (∀ i (h : i < cap.length), Rd w X cap[i] (capv.getD i undef)) -> ∀ l J, Cl P l ys J -> J (fun _ => False) X (some 0) w →
   Calls P gf (#[.func (.yield l) #[] #[]] ++ capv.toArray) w fun e W' => (∃ v, e = .returned v) /\ ∃ B X', J B X' (some ys.length) W' ∨ J B X' none W'

theorem Iter.toY {P : Program} {gf : FuncId} {cap ys : List T} (h : Iter P gf cap ys) : q19j P gf cap ys := by
 intro X w capv hcl hX hcap l J hJ hj0
 refine (h X w capv hcl hcap l (fun b i W => ∃ X', J (fun c => c = b) X' (some i) W /\ (∀ c, c < w.heap.size -> ¬ X c -> W.heap[c]? = w.heap[c]?) /\ (∀ c, X' c -> (X c ∨ w.heap.size <= c) /\ c ≠ b /\ c < W.heap.size) /\ w.heap.size <= b /\ b < W.heap.size /\ w.heap.size <= W.heap.size)
  (fun W => ∃ B X', J B X' none W) ?_ ?_ ?_).mono ?_
 ·intro W b hb hbW hx
  refine ⟨X, hJ.own hj0 (fun c h => h.elim) ⟨hx.size, fun c hc _ => hx.same c hc, fun c hc => .inr (by omega), fun c hc => by omega, hx.os, hx.tape, hx.output⟩, fun c hc _ => hx.same c hc, fun c hc => ?_, hb, hbW, hx.size⟩
  have := hX c hc
  exact ⟨.inl hc, by omega, by omega⟩
 ·rintro b i W W' ⟨X', h1, h2, h3, h4, h5, h6⟩ hx
  refine ⟨X', hJ.own h1 (fun c e hc => (h3 c hc).2.1 e) ⟨hx.size, fun c hc hn => hx.same c hc hn, fun c hc => .inl hc, fun c hc => by have := hx.size; omega, hx.os, hx.tape, hx.output⟩, fun c hc hn => ?_, fun c hc => ?_, h4, by have := hx.size; omega, by have := hx.size; omega⟩
  ·rw [hx.same c (by omega) (by omega)]; exact h2 c hc hn
  ·obtain ⟨a, b, d⟩ := h3 c hc
   exact ⟨a, b, by have := hx.size; omega⟩
 ·rintro b i W v hi ⟨X', h1, h2, h3, h4, h5, h6⟩ hb hr
  obtain ⟨fn, tm, as, bd, hy, hrnd⟩ := hJ.yield h1 (qB hi) (fun c e => ⟨fun hc => (h3 c hc).2.1 e, by omega⟩) (by simpa using hr)
  refine ⟨fn, tm, as, bd, hy, hrnd.mono ?_⟩
  rintro e W' ⟨b', X'', rfl, hj, hm⟩
  cases b' with
  | false => exact .inr ⟨rfl, _, _, hj⟩
  | true =>
    have hfz : ∀ c, c < w.heap.size -> ¬ X c -> W'.heap[c]? = w.heap[c]? := fun c hc hn => by
     rw [hm.same c (by omega) fun hx => ?_]
     ·exact h2 c hc hn
     ·rcases (h3 c hx).1 with h | h
      ·exact hn h
      ·omega
    refine .inl ⟨rfl, ⟨X'', hj, hfz, fun c hc => ?_, h4, by have := hm.size; omega, by have := hm.size; omega⟩, hm.size, hm.same b h5 fun hx => (h3 b hx).2.1 rfl, fun k hk => (hcap k hk).mono (fun c cs e fz hn hc => ?_) fun c hn hc e => ?_⟩
    ·rcases hm.grow c hc with h | h
     ·obtain ⟨a, b, d⟩ := h3 c h
      exact ⟨a, b, hm.lt c hc⟩
     ·exact ⟨.inr (by omega), by omega, hm.lt c hc⟩
    ·have hlt := (qF.1 hc).1
     rw [hfz c hlt hn]; exact hc
    ·omega
 ·rintro e W ⟨hv, (⟨b, X', h1, _⟩ | ⟨B, X', h1⟩)⟩
  ·exact ⟨hv, _, _, .inl h1⟩
  ·exact ⟨hv, _, _, .inr h1⟩

/-! The frame of an iterator. -/
def q1kx (a : Act) (c : Nat) : Prop := ({ target := .collected c, args := #[] } : Deferred) ∈ a.defers
def frO (a : Act) (hs : Nat -> Option Value) (fp : Nat -> List Nat) (mkp : Prop) : Fr := ⟨fun c => (∃ j, c ∈ fp j) ∨ q1kx a c, hs, mkp⟩
structure YOK (J : JT) (mkp : Prop) (n : Nat) (S : St) (m : Option Nat) (B E X : Nat -> Prop) (a : Act) (W : World) (hs : Nat -> Option Value) (fp : Nat -> List Nat) : Prop where
 g : Good (fun c => E c ∨ X c) W (frO a hs fp mkp) n S a W hs fp
 j : J B X m W
 eb : ∀ c, E c -> B c
 bx : ∀ c, B c -> ¬ X c /\ c < W.heap.size
 ob : ∀ c, frO a hs fp mkp c -> B c
structure StepY (X X' B B' O O' : Nat -> Prop) (hs hs' : Nat -> Option Value) (W W' : World) : Prop where
 size : W.heap.size <= W'.heap.size
 kp : ∀ c, c < W.heap.size -> ¬ X c -> ¬ O c -> W'.heap[c]? = W.heap[c]?
 gx : ∀ c, X' c -> X c ∨ W.heap.size <= c
 gb : ∀ c, B' c -> B c ∨ W.heap.size <= c
 bm : ∀ c, B c -> B' c
 go : ∀ c, O' c -> O c ∨ W.heap.size <= c
 hd : ∀ r h, 1000000000 <= r -> hs' r = some h -> hs r = some h
theorem StepY.trans {X X' X'' B B' B'' O O' O'' : Nat -> Prop} {hs hs' hs'' : Nat -> Option Value} {W W' W'' : World} (h : StepY X X' B B' O O' hs hs' W W') (h' : StepY X' X'' B' B'' O' O'' hs' hs'' W' W'') : StepY X X'' B B'' O O'' hs hs'' W W'' := by
 have up : ∀ {A A' A'' : Nat -> Prop}, (∀ c, A' c -> A c ∨ W.heap.size <= c) -> (∀ c, A'' c -> A' c ∨ W'.heap.size <= c) -> ∀ c, A'' c -> A c ∨ W.heap.size <= c := fun h1 h2 c hc => by
  rcases h2 c hc with h3 | h3
  ·exact h1 c h3
  ·have := h.size; exact .inr (by omega)
 have hsz := h.size
 have hsz' := h'.size
 refine ⟨by omega, fun c hc hx ho => ?_, up h.gx h'.gx, up h.gb h'.gb, fun c hc => h'.bm c (h.bm c hc), up h.go h'.go, fun r y hr hy => h.hd r y hr (h'.hd r y hr hy)⟩
 rw [h'.kp c (by omega) (fun h2 => ?_) (fun h2 => ?_)]
 ·exact h.kp c hc hx ho
 ·rcases h.gx c h2 with h3 | h3
  ·exact hx h3
  ·omega
 ·rcases h.go c h2 with h3 | h3
  ·exact ho h3
  ·omega
section
variable {P : Program} {n : Nat} {J : JT} {mkp : Prop} {S S' : St} {m : Option Nat} {B E X : Nat -> Prop} {a a' : Act} {W W' : World} {hs hs' : Nat -> Option Value} {fp fp' : Nat -> List Nat} {l : Nat} {ys : List T}

theorem q1kz {X : Nat -> Prop} {w0 : World} {O0 : Fr} (g : Good X w0 O0 n S a W hs fp) {c : Nat} (h : q1kx a c) : (w0.heap.size <= c ∨ O0 c) /\ W.heap[c]? = some (.deferred (some [])) := by
 obtain ⟨Ds, _, h2, h3, _⟩ := g.defers
 unfold q1kx at h
 rw [h2] at h
 obtain ⟨D, hD, e⟩ := qN.1 h
 have : D = c := by injection e with e; injection e
 subst this
 exact h3 D hD
theorem Good.rebase {X : Nat -> Prop} {w0 : World} {O0 : Fr} (g : Good X w0 O0 n S a W hs fp) (hX : ∀ c, q1kx a c -> ¬ X c) : Good X W (frO a hs fp O0.mkp) n S a W hs fp :=
 ⟨g.size, by
  obtain ⟨Ds, h1, h2, h3, h4⟩ := g.defers
  exact ⟨Ds, h1, h2, fun D hD => ⟨.inr (.inr (by unfold q1kx; rw [h2]; exact qN.2 ⟨D, hD, rfl⟩)), (h3 D hD).2⟩, h4⟩, g.env, g.root, g.disj, g.nodup, g.foreign, g.xold, fun b hb _ ho => by
   rcases ho with ⟨j, hj⟩ | ho
   ·exact g.foreign j b hj hb
   ·exact hX b ho hb, fun r b hb => .inl (.inl ⟨r, hb⟩), ⟨rfl, rfl, rfl, qR _, fun _ _ _ => rfl⟩, g.rooty, g.hdr, g.small, fun _ _ _ h => h⟩
theorem YOK.rnd (y : YOK J mkp n S m B E X a W hs fp) {ro : Option Nat} (hro : ∀ l', ro = some l' -> E l' /\ ∃ r, W.heap[l']? = some (.loop r)) : q00c ro W (frO a hs fp mkp) := fun l' e => by
 obtain ⟨h1, r, h2⟩ := hro l' e
 refine ⟨(qF.1 h2).1, ?_, r, h2⟩
 rintro (⟨j, hj⟩ | h)
 ·exact y.g.foreign j l' hj (.inl h1)
 ·have := (q1kz y.g h).2
  rw [h2] at this; cases this
theorem YOK.nextE (hJ : Cl P l ys J) (y : YOK J mkp n S m B E X a W hs fp) {E' : Nat -> Prop} (hE1 : ∀ c, E c -> E' c) (hEn : ∀ c, E' c -> E c ∨ W.heap.size <= c) (g : Good (fun c => E' c ∨ X c) W (frO a hs fp mkp) n S' a' W' hs' fp') (hd : ∀ c, q1kx a' c -> ¬ E' c) : ∃ B', YOK J mkp n S' m B' E' X a' W' hs' fp' /\ StepY X X B B' (frO a hs fp mkp) (frO a' hs' fp' mkp) hs hs' W W' := by
 have hsz := g.hist.size
 have hE : ∀ c, E c ∨ X c -> c < W.heap.size := fun c h => y.g.xold c h
 have hEX : ∀ c, E c ∨ X c -> ¬ frO a hs fp mkp c := fun c h => y.g.xout c h (hE c h)
 have hmk : ∀ c, q1kx a' c -> frO a hs fp mkp c ∨ W.heap.size <= c := fun c h => (q1kz g h).1.symm
 have ho : ∀ c, frO a' hs' fp' mkp c -> frO a hs fp mkp c ∨ W.heap.size <= c := fun c h => by
  rcases h with ⟨j, hj⟩ | h
  ·exact g.mine j c hj
  ·exact hmk c h
 have hol : ∀ c, frO a' hs' fp' mkp c -> c < W'.heap.size := fun c h => by
  rcases h with ⟨j, hj⟩ | h
  ·exact g.lt hj
  ·exact (qF.1 (q1kz g h).2).1
 refine ⟨fun c => B c ∨ (W.heap.size <= c /\ c < W'.heap.size), ⟨?_, ?_, fun c h => ?_, fun c h => ?_, fun c h => ?_⟩, ⟨hsz, fun c hc _ hn => g.hist.block c hc hn, fun c h => .inl h, fun c h => h.imp id (·.1), fun c h => .inl h, ho, g.pin⟩⟩
 ·have := g.rebase fun c h hX => by
   rcases hX with hX | hX
   ·exact hd c h hX
   ·rcases hmk c h with h1 | h1
    ·exact hEX c (.inr hX) h1
    ·have := hE c (.inr hX); omega
  exact this
 ·refine hJ.own y.j (fun c h => (y.bx c h).1) ⟨hsz, fun c hc hn => g.hist.block c hc fun h => hn (y.ob c h), fun c h => h.imp id (·.1), fun c h => ?_, g.hist.os, g.hist.tape, g.hist.output⟩
  rcases h with h | h
  ·have := (y.bx c h).2; omega
  ·exact h.2
 ·rcases hEn c h with h1 | h1
  ·exact .inl (y.eb c h1)
  ·exact .inr ⟨h1, g.xold c (.inl h)⟩
 ·rcases h with h | h
  ·exact ⟨(y.bx c h).1, by have := (y.bx c h).2; omega⟩
  ·exact ⟨fun hx => by have := hE c (.inr hx); omega, h.2⟩
 ·rcases ho c h with h1 | h1
  ·exact .inl (y.ob c h1)
  ·exact .inr ⟨h1, hol c h⟩
theorem YOK.next (hJ : Cl P l ys J) (y : YOK J mkp n S m B E X a W hs fp) (g : Good (fun c => E c ∨ X c) W (frO a hs fp mkp) n S' a' W' hs' fp') : ∃ B', YOK J mkp n S' m B' E X a' W' hs' fp' /\ StepY X X B B' (frO a hs fp mkp) (frO a' hs' fp' mkp) hs hs' W W' :=
 y.nextE hJ (fun _ h => h) (fun _ h => .inl h) g fun c h hE => by
  have h1 := y.g.xold c (.inl hE)
  rcases (q1kz g h).1 with h2 | h2
  ·omega
  ·exact y.g.xout c (.inl hE) h1 h2
end

def SemY (P : Program) (n : Nat) (J : JT) (mkp : Prop) (c : Code) (Q : Exit -> St -> Option Nat -> Prop) (S : St) (m : Option Nat) : Prop :=
 ∀ B E X a W hs fp, YOK J mkp n S m B E X a W hs fp -> ∀ ro, (∀ l', ro = some l' -> E l' /\ ∃ r, W.heap[l']? = some (.loop r)) -> (q0pq c = true -> ro = none -> mkp) →
   c.wpIn (rF ro) 0 P (fun e a' W' => ∃ S' m' B' X' hs' fp', YOK J mkp n S' m' B' E X' a' W' hs' fp' /\ StepY X X' B B' (frO a hs fp mkp) (frO a' hs' fp' mkp) hs hs' W W' /\ Q e S' m') a W
def q19l (P : Program) (n : Nat) (J : JT) (mkp : Prop) (c : CC) (Q : Exit -> St -> Option Nat -> Prop) (S : St) (m : Option Nat) : Prop := ∀ H code, trC P n H code = some c -> ychk code = true -> SemY P n J mkp code Q S m
def q1qr (K : St -> Option Nat -> Prop) (Q : Exit -> St -> Option Nat -> Prop) : Exit -> St -> Option Nat -> Prop
 | .normal, S, m => K S m
 | e, S, m => Q e S m

section
variable {P : Program} {n : Nat} {J : JT} {mkp : Prop} {S : St} {m : Option Nat} {l : Nat} {ys : List T}

theorem YOK.keepE {S : St} {m : Option Nat} {B E X X' : Nat -> Prop} {a : Act} {W W' : World} {hs : Nat -> Option Value} {fp : Nat -> List Nat} (y : YOK J mkp n S m B E X a W hs fp) {B' O' : Nat -> Prop} {hs' : Nat -> Option Value} (s : StepY X X' B B' (frO a hs fp mkp) O' hs hs' W W') {c : Nat} (h : E c) : W'.heap[c]? = W.heap[c]? :=
 s.kp c (y.g.xold c (.inl h)) (y.bx c (y.eb c h)).1 (y.g.xout c (.inl h) (y.g.xold c (.inl h)))
theorem Sem.toY (hJ : Cl P l ys J) {c : Code} {Q : Exit -> St -> Option Nat -> Prop} (h : Sem P n c (fun e S' => Q e S' m) S) : SemY P n J mkp c Q S m := fun B E X a W hs fp y ro hro hmk =>
 wpIn_mono (h _ W _ a W hs fp y.g ro (y.rnd hro) hmk) fun e a' W' ⟨⟨S', hs', fp', g', q⟩, _⟩ => by
  obtain ⟨B', y', s'⟩ := y.next hJ g'
  exact ⟨S', m, B', X, hs', fp', y', s', q⟩
theorem q19l.of (hJ : Cl P l ys J) {c : CC} {Q : Exit -> St -> Option Nat -> Prop} (h : cW P n c (fun e S' => Q e S' m) S) : q19l P n J mkp c Q S m := fun H code hc _ => Sem.toY hJ (q031 _ _ _ h H code hc)
theorem SemY.weaken (hJ : Cl P l ys J) {S' : St} {c : Code} {Q : Exit -> St -> Option Nat -> Prop} (hw : Weak n S S') (h : SemY P n J mkp c Q S' m) : SemY P n J mkp c Q S m := fun B E X a W hs fp y ro hro hmk => by
 obtain ⟨hs', fp', g'⟩ := hw _ W _ a W hs fp y.g
 obtain ⟨B', y', s'⟩ := y.next hJ g'
 refine wpIn_mono (h _ E X a W hs' fp' y' ro hro hmk) ?_
 rintro e a2 W2 ⟨S2, m2, B2, X2, hs2, fp2, y2, s2, q⟩
 exact ⟨S2, m2, B2, X2, hs2, fp2, y2, s'.trans s2, q⟩
theorem SemY.mono {c : Code} {Q Q' : Exit -> St -> Option Nat -> Prop} (h : SemY P n J mkp c Q S m) (hq : ∀ e S' m', Q e S' m' -> Q' e S' m') : SemY P n J mkp c Q' S m := fun B E X a W hs fp y ro hro hmk =>
 wpIn_mono (h B E X a W hs fp y ro hro hmk) fun e a' W' ⟨S', m', B', X', hs', fp', y', s', q⟩ => ⟨S', m', B', X', hs', fp', y', s', hq e S' m' q⟩
theorem SemY.seq {x y : Code} {Q : Exit -> St -> Option Nat -> Prop} (h : SemY P n J mkp x (q1qr (SemY P n J mkp y Q) Q) S m) : SemY P n J mkp (.seq x y) Q S m := fun B E X a W hs fp yk ro hro hmk =>
 wpIn_seq (wpIn_mono (h B E X a W hs fp yk ro hro (fun e => hmk (by simp [q0pq, e]))) fun e a' W' ⟨S', m', B', X', hs', fp', y', s', q⟩ => by
  cases e with
  | normal =>
    refine wpIn_mono (q B' E X' a' W' hs' fp' y' ro (fun l' e => ⟨(hro l' e).1, by rw [yk.keepE s' (hro l' e).1]; exact (hro l' e).2⟩) (fun e => hmk (by simp [q0pq, e]))) ?_
    rintro e a2 W2 ⟨S2, m2, B2, X2, hs2, fp2, y2, s2, q2⟩
    exact ⟨S2, m2, B2, X2, hs2, fp2, y2, s'.trans s2, q2⟩
  | _ => exact ⟨S', m', B', X', hs', fp', y', s', q⟩)
theorem q19l.seq {x y : CC} {Q : Exit -> St -> Option Nat -> Prop} (h : q19l P n J mkp x (q1qr (q19l P n J mkp y Q) Q) S m) : q19l P n J mkp (.seq x y) Q S m := fun H code hc hk => by
 obtain ⟨a, b, rfl, ha, hb⟩ := q1r4 hc
 simp only [ychk, qM] at hk
 refine SemY.seq ((h H a ha hk.1).mono fun e S' m' q => ?_)
 cases e with
 | normal => exact q H b hb hk.2
 | _ => exact q
theorem q19l.cond {c : Operand} {x y : CC} {Q : Exit -> St -> Option Nat -> Prop} {b : Bool} (hc : S.ev c = .t (.v (.bool b))) (h1 : b = true -> q19l P n J mkp x Q S m) (h2 : b = false -> q19l P n J mkp y Q S m) : q19l P n J mkp (.cond c x y) Q S m := fun H code hco hk => by
 obtain ⟨cx, cy, rfl, hx, hy⟩ := q1r0 hco
 simp only [ychk, qM] at hk
 intro B E X a W hs fp yk ro hro hmk
 have hv := yk.g.ev c
 rw [hc] at hv
 have hv := hv.v_inv
 refine wpIn_cond (t := b) hv ?_
 cases b
 ·exact h2 rfl H cy hy hk.2 B E X a W hs fp yk ro hro (fun e => hmk (by simp [q0pq, e]))
 ·exact h1 rfl H cx hx hk.1 B E X a W hs fp yk ro hro (fun e => hmk (by simp [q0pq, e]))
def q1ai (id : Nat) (Q : Exit -> St -> Option Nat -> Prop) : Exit -> St -> Option Nat -> Prop
 | .exit id', S, m => if id' = id then Q .normal S m else Q (.exit id') S m
 | e, S, m => Q e S m
theorem q19l.block {id : Nat} {c : CC} {Q : Exit -> St -> Option Nat -> Prop} (h : q19l P n J mkp c (q1ai id Q) S m) : q19l P n J mkp (.block id c) Q S m := fun H code hco hk => by
 obtain ⟨x, rfl, hx⟩ := q1qz hco
 simp only [ychk] at hk
 intro B E X a W hs fp yk ro hro hmk
 refine wpIn_block (wpIn_mono (h H x hx hk B E X a W hs fp yk ro hro hmk) fun e a' w' ⟨S', m', B', X', hs', fp', y', s', q⟩ => ?_)
 cases e with
 | exit id' =>
   simp only [Exit.inBlock, q1ai] at q ⊢
   split at q
   ·rename_i h; rw [if_pos h]; exact ⟨S', m', B', X', hs', fp', y', s', q⟩
   ·rename_i h; rw [if_neg h]; exact ⟨S', m', B', X', hs', fp', y', s', q⟩
 | _ => exact ⟨S', m', B', X', hs', fp', y', s', q⟩
def q1kv {σ : Type} (n : Nat) (mk : σ -> St) (M : σ -> Option Nat) (Inv : σ -> Prop) (μ : σ -> Nat) (k : Nat) (Q : Exit -> St -> Option Nat -> Prop) : Exit -> St -> Option Nat -> Prop
 | .normal, S, m => ∃ s', Weak n S (mk s') /\ m = M s' /\ Inv s' /\ μ s' < k
 | e, S, m => Q e S m
theorem SemY.loop (hJ : Cl P l ys J) {σ : Type} {c : Code} {Q : Exit -> St -> Option Nat -> Prop} (mk : σ -> St) (M : σ -> Option Nat) (Inv : σ -> Prop) (μ : σ -> Nat) (s0 : σ) (h0 : Weak n S (mk s0)) (hm0 : m = M s0) (hi : Inv s0)
  (round : ∀ s, Inv s -> SemY P n J mkp c (q1kv n mk M Inv μ (μ s) Q) (mk s) (M s)) : SemY P n J mkp (.loop c) Q S m := by
 subst hm0
 refine SemY.weaken hJ h0 ?_
 intro B E X a W hs fp y ro hro hmk b k cs hb1 hb2 hb3
 have key : ∀ j s B X a W hs fp, μ s = j -> Inv s -> YOK J mkp n (mk s) (M s) B E X a W hs fp -> (∀ l', ro = some l' -> E l' /\ ∃ r, W.heap[l']? = some (.loop r)) →
   ∃ e a' W', (∃ S' m' B' X' hs' fp', YOK J mkp n S' m' B' E X' a' W' hs' fp' /\ StepY X X' B B' (frO a hs fp mkp) (frO a' hs' fp' mkp) hs hs' W W' /\ Q e S' m') /\ ArrivesIn (Machine.fenced P (rF ro)) P (lone (b.atR a (.code c :: .inLoop c :: k)) cs W) b k cs e a' W' := by
  intro j
  induction j using Nat.strongRecOn with
  | _ j ih =>
    intro s B X a W hs fp hm hi y hro
    obtain ⟨e, a₁, w₁, ⟨S1, m1, B1, X1, hs1, fp1, y1, s1, q⟩, harr⟩ := round s hi B E X a W hs fp y ro hro hmk b (.inLoop c :: k) cs hb1 hb2 hb3
    cases e with
    | normal =>
      obtain ⟨s', hg, rfl, hi', hlt⟩ := q
      obtain ⟨hs2, fp2, g2⟩ := hg _ _ _ _ _ _ _ y1.g
      obtain ⟨B2, y2, s2⟩ := y1.next hJ g2
      obtain ⟨e₂, a₂, w₂, ⟨S3, m3, B3, X3, hs3, fp3, y3, s3, q3⟩, harr₂⟩ := ih (μ s') (hm ▸ hlt) s' B2 X1 a₁ w₁ hs2 fp2 rfl hi' y2 (fun l' e => ⟨(hro l' e).1, by rw [y.keepE s1 (hro l' e).1]; exact (hro l' e).2⟩)
      exact ⟨e₂, a₂, w₂, ⟨S3, m3, B3, X3, hs3, fp3, y3, s1.trans (s2.trans s3), q3⟩, .of_steps (StepsIn.trans harr (.one (fenced_calm hb2 hb3 rfl) stepR_inLoop)) harr₂⟩
    | exit id => exact ⟨_, a₁, w₁, ⟨S1, m1, B1, X1, hs1, fp1, y1, s1, q⟩, .pass (x := .inLoop c) rfl (fun _ _ => .inl (by simp)) harr⟩
    | goto l => exact ⟨_, a₁, w₁, ⟨S1, m1, B1, X1, hs1, fp1, y1, s1, q⟩, .pass (x := .inLoop c) rfl (fun _ _ => .inl (by simp)) harr⟩
    | ret => exact ⟨_, a₁, w₁, ⟨S1, m1, B1, X1, hs1, fp1, y1, s1, q⟩, .pass (x := .inLoop c) rfl (fun _ _ => .inl (by simp)) harr⟩
    | panic ch => exact ⟨_, a₁, w₁, ⟨S1, m1, B1, X1, hs1, fp1, y1, s1, q⟩, .pass (x := .inLoop c) rfl (fun _ _ => .inl (by simp)) harr⟩
    | outgrown => exact ⟨_, a₁, w₁, ⟨S1, m1, B1, X1, hs1, fp1, y1, s1, q⟩, .pass (x := .inLoop c) rfl (fun _ _ => .inl (by simp)) harr⟩
 obtain ⟨e, a', w', hq, harr⟩ := key _ s0 B X a W hs fp rfl hi y hro
 exact ⟨e, a', w', hq, .of_steps (.one (fenced_calm hb2 hb3 rfl) stepR_loop) harr⟩
theorem q19l.loop (hJ : Cl P l ys J) {σ : Type} {c : CC} {Q : Exit -> St -> Option Nat -> Prop} (mk : σ -> St) (M : σ -> Option Nat) (Inv : σ -> Prop) (μ : σ -> Nat) (s0 : σ) (h0 : Weak n S (mk s0)) (hm0 : m = M s0) (hi : Inv s0)
  (round : ∀ s, Inv s -> q19l P n J mkp c (q1kv n mk M Inv μ (μ s) Q) (mk s) (M s)) : q19l P n J mkp (.loop c) Q S m := fun H code hco hk => by
 obtain ⟨x, rfl, hx⟩ := q1r2 hco
 simp only [ychk] at hk
 exact SemY.loop hJ mk M Inv μ s0 h0 hm0 hi fun s hs => round s hs H x hx hk
end
end Go.Ab

/- The abstract layer, part 41: the rule for a range over a function inside an iterator's own frame. -/
namespace Go.Ab
section
variable {P : Program} {n : Nat} {J : JT} {mkp : Prop} {S S' : St} {m : Option Nat} {B E X : Nat -> Prop} {a a' : Act} {W W' : World} {hs hs' : Nat -> Option Value} {fp fp' : Nat -> List Nat} {l : Nat} {ys : List T}

theorem YOK.putE (hJ : Cl P l ys J) (y : YOK J mkp n S m B E X a W hs fp) {c : Nat} (hc : E c) (hm : ∀ D, q1kx a D -> D ≠ c) (o : Obj) : YOK J mkp n S m B E X a (W.putObj c o) hs fp := by
 have hother : ∀ b, b ≠ c -> (W.putObj c o).heap[b]? = W.heap[b]? := fun b hb => World.putObj_heap_other hb
 refine ⟨?_, hJ.own y.j (fun b h => (y.bx b h).1) ⟨by simp, fun b hb hn => hother b fun e => hn (e ▸ y.eb c hc), fun b h => .inl h, fun b h => by simpa using (y.bx b h).2, rfl, rfl, rfl⟩, y.eb, fun b h => by simpa using y.bx b h, y.ob⟩
 refine y.g.world rfl (fun b cs e fz hn hb => ?_) (fun r b hb => hother b fun e => y.g.foreign r b hb (.inl (e ▸ hc))) (fun b h => .inl h) (fun b h => by simpa using y.g.xold b h) (fun b h hb => y.g.xout b h (by simpa using hb)) ⟨rfl, rfl, rfl, by simp, fun _ _ _ => rfl⟩ (fun r b hb => .inl (.inl ⟨r, hb⟩)) ?_
 ·rw [hother b fun e => hn (.inl (.inl (e ▸ hc)))]; exact hb
 ·obtain ⟨Ds, h1, h2, h3, h4⟩ := y.g.defers
  refine ⟨Ds, h1, h2, fun D hD => ⟨?_, ?_⟩, h4⟩
  ·have := (h3 D hD).1; rwa [World.putObj_size]
  ·have hmk : q1kx a D := by unfold q1kx; rw [h2]; exact qN.2 ⟨D, hD, rfl⟩
   rw [hother D (hm D hmk)]; exact (h3 D hD).2

theorem Good.backY {X1 X2 : Nat -> Prop} {w0 : World} {O0 : Fr} (g : Good X1 w0 O0 n S a W hs fp) {srcs : List Nat} {rin rout : List T} (hsn : srcs.Nodup) (hsrc : q0tg S srcs rin) (hrl : rout.length = rin.length)
  {fp' : Nat -> List Nat} {hsc : Nat -> Option Value} (hsz : W.heap.size <= W'.heap.size) (hkp : ∀ c, c < W.heap.size -> ¬ X1 c -> (∀ q ∈ srcs, c ∉ fp q) -> W'.heap[c]? = W.heap[c]?) (hkf : ∀ r, r ∉ srcs -> ∀ c ∈ fp r, W'.heap[c]? = W.heap[c]?)
  (hhc : ∀ i q, srcs[i]? = some q -> hsc (1000000000 + i) = hs q)
  (hroot : ∀ i t, rout[i]? = some t -> ∃ x, hsc (1000000000 + i) = some x /\ Ow W' (fun _ => False) t x (fp' (1000000000 + i)) /\ (t.rooty = true ∨ t = .any))
  (hdj : ∀ r r' b, b ∈ fp' r -> b ∈ fp' r' -> r = r') (hnd : ∀ r, (fp' r).Nodup) (hold : ∀ j b, b ∈ fp' j -> (∃ q, q ∈ srcs /\ b ∈ fp q) ∨ W.heap.size <= b)
  (hX : ∀ b, X2 b -> X1 b ∨ W.heap.size <= b) (hXl : ∀ b, X2 b -> b < W'.heap.size) (hXf : ∀ j b, b ∈ fp' j -> ¬ X2 b) (hns : T.noShL rout) (hmk : ∀ D, q1kx a D -> W'.heap[D]? = W.heap[D]? /\ ¬ X2 D) :
  ∃ fp'', Good X2 W' (frO a hs fp'' O0.mkp) n (setS S srcs rout) a W' hs fp'' /\ ∀ r b, b ∈ fp'' r -> (∃ i, i < srcs.length /\ b ∈ fp' (1000000000 + i)) ∨ b ∈ fp r := by
 obtain ⟨hsrl, hsg⟩ := q0th hsrc
 let fp'' : Nat -> List Nat := fun r => match (srcs.zip (List.range srcs.length)).lookup r with | some i => fp' (1000000000 + i) | none => fp r
 have fpB : ∀ i (h : i < srcs.length), fp'' srcs[i] = fp' (1000000000 + i) := fun i h => by
  have h2 := q0iz (ks := srcs) (vs := List.range srcs.length) (by simp) hsn i h (by simpa using h)
  simp only [List.getElem_range] at h2
  simp only [fp'', h2]
 have fpC : ∀ r, r ∉ srcs -> fp'' r = fp r := fun r h2 => by simp only [fp'', q0j0 h2]
 have kinds : ∀ r, (∃ i, ∃ h : i < srcs.length, r = srcs[i]) ∨ r ∉ srcs := fun r => by
  by_cases h2 : r ∈ srcs
  ·obtain ⟨i, hi, rfl⟩ := rE.1 h2; exact .inl ⟨i, hi, rfl⟩
  ·exact .inr h2
 have where_ : ∀ r b, b ∈ fp'' r -> (∃ i, ∃ h : i < srcs.length, r = srcs[i] /\ b ∈ fp' (1000000000 + i)) ∨ (r ∉ srcs /\ b ∈ fp r) := fun r b hb => by
  rcases kinds r with ⟨i, h, rfl⟩ | h2
  ·rw [fpB i h] at hb; exact .inl ⟨i, h, rfl, hb⟩
  ·rw [fpC r h2] at hb; exact .inr ⟨h2, hb⟩
 have hk : q009 (fun b => ¬ Ob X1 fp b) W W' := fun b cs e fz hn hb => by
  rw [hkp b (qF.1 hb).1 (fun h => hn (.inl h)) fun q _ hq => hn (.inr ⟨q, hq⟩)]; exact hb
 have hO : ∀ b, ¬ Ob X1 fp b -> b < W.heap.size -> ¬ Ob X2 fp'' b := by
  rintro b h1 hlt (h | ⟨r, hr⟩)
  ·rcases hX b h with h2 | h2
   ·exact h1 (.inl h2)
   ·omega
  ·rcases where_ r b hr with ⟨i, h, rfl, h2⟩ | ⟨h3, h4⟩
   ·rcases hold _ b h2 with ⟨q, _, hq⟩ | h2
    ·exact h1 (.inr ⟨q, hq⟩)
    ·omega
   ·exact h1 (.inr ⟨r, h4⟩)
 have apart : ∀ r b, r ∉ srcs -> b ∈ fp r -> ∀ j, b ∉ fp' j := fun r b hr hb j hj => by
  rcases hold j b hj with ⟨q, hq, hbq⟩ | h
  ·have := g.disj r q b hb hbq; exact hr (this ▸ hq)
  ·have := g.lt hb; omega
 refine ⟨fp'', ⟨g.size, ?_, fun i => (g.env i).mono hk hO (fun _ _ h => h), fun r => ?_, fun r r' b hr hr' => ?_, fun r => ?_, fun r b hb => ?_, hXl, fun b hb _ ho => ?_, fun r b hb => .inl (.inl ⟨r, hb⟩), ⟨rfl, rfl, rfl, qR _, fun _ _ _ => rfl⟩, fun r t lk hr => ?_, g.hdr, g.small, fun _ _ _ h => h⟩, fun r b hb => ?_⟩
 ·obtain ⟨Ds, h1, h2, h3, h4⟩ := g.defers
  refine ⟨Ds, h1, h2, fun D hD => ?_, h4⟩
  have hm : q1kx a D := by unfold q1kx; rw [h2]; exact qN.2 ⟨D, hD, rfl⟩
  exact ⟨.inr (.inr hm), by rw [(hmk D hm).1]; exact (h3 D hD).2⟩
 ·show q00d _ _ _ (updS S.roots srcs rout r) _ _
  rcases q0wz (f := S.roots) (r := r) (show srcs.length = rout.length by omega) with ⟨i, hi, hi', rfl, h4⟩ | ⟨h3, h4⟩
  ·rw [h4, fpB i hi]
   obtain ⟨x, hx, ho, hrt⟩ := hroot i _ (qB hi')
   rw [hhc i _ (qB hi)] at hx
   rcases hrt with hrt | hrt
   case inr =>
    rw [hrt] at ho ⊢
    show fp' (1000000000 + i) = []
    generalize fp' (1000000000 + i) = f at ho
    cases ho; rfl
   rw [q0pw hrt]
   exact ⟨x, hx, ho.noSh ((T.noShL_iff rout).1 hns _ (rJ hi')), fun p hp => by simp at hp⟩
  ·have hr2 : r ∉ srcs := fun hm => by
    obtain ⟨i, hi, rfl⟩ := rE.1 hm
    exact h3 i hi rfl
   rw [h4, fpC r hr2]
   exact g.keepRoot r hk hO (fun _ _ h => h) rfl (hkf r hr2)
 ·rcases where_ r b hr with ⟨i, h, rfl, h2⟩ | ⟨h2, h3⟩ <;> rcases where_ r' b hr' with ⟨j, h', rfl, h2'⟩ | ⟨h2', h3'⟩
  ·have := hdj _ _ b h2 h2'
   have : i = j := by omega
   subst this; rfl
  ·exact (apart r' b h2' h3' _ h2).elim
  ·exact (apart r b h2 h3 _ h2').elim
  ·exact g.disj r r' b h3 h3'
 ·rcases kinds r with ⟨i, h, rfl⟩ | h2
  ·rw [fpB i h]; exact hnd _
  ·rw [fpC r h2]; exact g.nodup r
 ·rcases where_ r b hb with ⟨i, h, rfl, h2⟩ | ⟨h2, h3⟩
  ·exact hXf _ b h2
  ·intro hb2
   rcases hX b hb2 with h4 | h4
   ·exact g.foreign r b h3 h4
   ·have := g.lt h3; omega
 ·rcases ho with ⟨j, hj⟩ | ho
  ·rcases where_ j b hj with ⟨i, h, rfl, h2⟩ | ⟨h2, h3⟩
   ·exact hXf _ b h2 hb
   ·rcases hX b hb with h4 | h4
    ·exact g.foreign j b h3 h4
    ·have := g.lt h3; omega
  ·exact (hmk b ho).2 hb
 ·have hr : updS S.roots srcs rout r = .live t lk := hr
  rcases q0wz (f := S.roots) (r := r) (show srcs.length = rout.length by omega) with ⟨i, hi, hi', rfl, h4⟩ | ⟨h3, h4⟩
  ·rw [h4] at hr
   obtain ⟨x, hx, ho, hrt⟩ := hroot i _ (qB hi')
   rcases hrt with hrt | hrt
   ·rw [q0pw hrt] at hr; cases hr; exact hrt
   ·rw [hrt] at hr; cases hr
  ·rw [h4] at hr; exact g.rooty r t lk hr
 ·rcases where_ r b hb with ⟨i, h, rfl, h2⟩ | ⟨h2, h3⟩
  ·exact .inl ⟨i, h, h2⟩
  ·exact .inr h3
end
end Go.Ab

/- The abstract layer, part 42: one round inside an iterator's own frame. -/
namespace Go.Ab
def q1k7 (Q : Exit -> St -> Option Nat -> Prop) (j : Code) (S' : St) (m : Option Nat) : Prop := (j = .ret /\ Q .ret S' m) ∨ ∃ id, j = .exit id /\ Q (.exit id) S' m
def rndY (n : Nat) (Sm Sn : St) (mn : Option Nat) (srcs : List Nat) (k : Nat) (Q : Exit -> St -> Option Nat -> Prop) : Exit -> St -> Option Nat -> Prop
 | .normal, S', m => q0pz S' k 1000000000 fun rout => T.noShL rout /\ m = mn /\ Weak n (setS Sm srcs rout) Sn
 | .ret, S', m => q0pz S' k 1000000000 fun rout => T.noShL rout /\ Q .ret (setS Sm srcs rout) m
 | .exit id, S', m => q0pz S' k 1000000000 fun rout => T.noShL rout /\ Q (.exit id) (setS Sm srcs rout) m
 | _, _, _ => False
structure RndY (l : Nat) (X X' B B' : Nat -> Prop) (hs hs' : Nat -> Option Value) (fp fp' : Nat -> List Nat) (W W' : World) : Prop where
 size : W.heap.size <= W'.heap.size
 kp : ∀ c, c < W.heap.size -> ¬ X c -> c ≠ l -> (∀ j, c ∉ fp j) -> W'.heap[c]? = W.heap[c]?
 gx : ∀ c, X' c -> X c ∨ W.heap.size <= c
 gb : ∀ c, B' c -> B c ∨ W.heap.size <= c
 bm : ∀ c, B c -> B' c
 go : ∀ j c, c ∈ fp' j -> (∃ i, c ∈ fp i) ∨ W.heap.size <= c
 hd : ∀ r h, 1000000000 <= r -> hs' r = some h -> hs r = some h
section
variable {P : Program} {n : Nat} {J : JT} {mkp : Prop} {m : Option Nat} {B X : Nat -> Prop} {a : Act} {W : World} {hs : Nat -> Option Value} {fp : Nat -> List Nat} {l : Nat} {ys : List T}
theorem q1ky {a : Act} (h : a.defers = []) (c : Nat) : ¬ q1kx a c := by unfold q1kx; rw [h]; simp

theorem YOK.round (hJ : Cl P l ys J) {Sm Sn : St} {mn : Option Nat} {E0 B2 : Nat -> Prop} {l2 : Nat} {rec : Loop} (y : YOK J mkp n Sm m B (fun c => E0 c ∨ B2 c) X a W hs fp) (hlE : E0 l2) (hl : W.heap[l2]? = some (.loop rec)) (hready : rec.state = .ready) (hpend : rec.pending = none)
  {fn : FuncId} {srcs bor : List Nat} {rin : List T} {sl : List (Nat × A)} {p : Nat} {yv : T} {v : Value} {ca cb : Code} {Q : Exit -> St -> Option Nat -> Prop} (hsn : srcs.Nodup) (hsb : ∀ q ∈ bor, q ∉ srcs) (hsrc : q0tg Sm srcs rin) (hp : p < n)
  (hsl : ∀ s ∈ sl, s.1 ≠ p /\ va Sm srcs bor s.2 (Sm.env s.1)) (hd0 : ∀ c, B2 c -> ¬ E0 c) (hy : Rd W (fun c => ¬ B2 c) yv v)
  (round : SemY P n J False ca (fun e S1 m1 => e = .normal /\ SemY P n J False cb (rndY n Sm Sn mn srcs rin.length Q) S1 m1) (St.of ((p, .t yv) :: sl) (enum 1000000000 rin)) m) :
  RoundIn Fence.wide 0 P l2 fn (a.tmps.setIfInBounds p v) ca cb W fun e W' => ∃ b, e = .returned (.bool b) /\ ∃ B' X' S' m' hs' fp', YOK J mkp n S' m' B' (fun c => E0 c ∨ B2 c) X' a W' hs' fp' /\ RndY l2 X X' B B' hs hs' fp fp' W W' ∧
   (if b then S' = Sn /\ m' = mn /\ W'.heap[l2]? = some (.loop rec) else ∃ j, W'.heap[l2]? = some (.loop { rec with state := .done, pending := some j }) /\ q1k7 Q j S' m') := by
 obtain ⟨Xc, hsc, fpc, hXc, hhc, hfc, hm, hva⟩ := y.g.enter (X' := fun c => E0 c ∨ X c) (fun c h => h.elim (fun h => .inl (.inl h)) .inr) (bor := bor) hsn hsrc hsb
 let Er : Nat -> Prop := fun c => E0 c ∨ ∃ q, q ∉ srcs /\ q ∉ bor /\ c ∈ fp q
 have hXe : Xc = fun c => Er c ∨ X c := funext fun c => propext ((hXc c).trans ⟨fun h => by
  rcases h with (h | h) | h
  ·exact .inl (.inl h)
  ·exact .inr h
  ·exact .inl (.inr h), fun h => by
  rcases h with (h | h) | h
  ·exact .inl (.inl h)
  ·exact .inr h
  ·exact .inl (.inr h)⟩)
 subst hXe
 have hErl : Er l2 := .inl hlE
 have hEX : ∀ c, (E0 c ∨ B2 c) ∨ X c -> c < W.heap.size := fun c h => y.g.xold c h
 have hnO : ∀ c, (E0 c ∨ B2 c) ∨ X c -> ¬ frO a hs fp mkp c := fun c h => y.g.xout c h (hEX c h)
 have hfpB : ∀ j c, c ∈ fp j -> B c := fun j c h => y.ob c (.inl ⟨j, h⟩)
 have hcfp : ∀ j c, c ∈ fpc j -> ∃ q, q ∈ srcs /\ c ∈ fp q := hfc
 have hsz : (a.tmps.setIfInBounds p v).size = n := by simp [y.g.size]
 have hB2O : ∀ c, ¬ ¬ B2 c -> ¬ Ob (fun c => Er c ∨ X c) fpc c := by
  rintro c h1 (h | ⟨j, hj⟩)
  ·have h1 := Classical.not_not.1 h1
   rcases h with (h | ⟨q, _, _, hq⟩) | h
   ·exact hd0 c h1 h
   ·exact y.g.foreign q c hq (.inl (.inr h1))
   ·exact (y.bx c (y.eb c (.inr h1))).1 h
  ·obtain ⟨q, _, hq⟩ := hcfp j c hj
   exact y.g.foreign q c hq (.inl (.inr (Classical.not_not.1 h1)))
 have gR := hm.good (n := n) (mkp := False) (tm := a.tmps.setIfInBounds p v) (l := (p, .t yv) :: sl) hsz y.g.small fun s hs => by
  rcases qO.1 hs with rfl | hs
  ·show Is _ _ _ (.t yv) ((a.tmps.setIfInBounds p v).getD p undef)
   rw [q1ok (by rw [y.g.size]; exact hp)]
   exact .t (hy.mono (fun _ _ _ _ _ h => h) fun c hc _ => hB2O c hc)
  ·obtain ⟨h1, h2⟩ := hsl s hs
   rw [q1oj h1]
   exact hva _ _ h2 (y.g.env s.1)
 have gR := gR.rebase fun c h => absurd h (q1ky rfl c)
 have yR : YOK J False n (St.of ((p, .t yv) :: sl) (enum 1000000000 rin)) m B Er X { tmps := a.tmps.setIfInBounds p v, defers := [] } W hsc fpc :=
  ⟨gR, y.j, fun c h => by
   rcases h with h | ⟨q, _, _, h⟩
   ·exact y.eb c (.inl h)
   ·exact hfpB q c h, y.bx, fun c h => by
   rcases h with ⟨j, hj⟩ | h
   ·obtain ⟨q, _, hq⟩ := hcfp j c hj; exact hfpB q c hq
   ·exact absurd h (q1ky rfl c)⟩
 refine roundIn_of_wpIn trivial (wpIn_mono (round B Er X _ W hsc fpc yR (some l2) (fun l' e => by cases e; exact ⟨hErl, _, hl⟩) (fun _ h => by cases h)) ?_)
 rintro e a₁ w₁ ⟨S1, m1, B1, X1, hs1, fp1, y1, s1, rfl, hS1⟩
 have hl1 : w₁.heap[l2]? = some (.loop rec) := (yR.keepE s1 hErl).trans hl
 refine ⟨_, run_beginRound hl1 hready, ?_⟩
 have hnm : ∀ {S' m' B' E' X' a' W' hs' fp'}, YOK J False n S' m' B' E' X' a' W' hs' fp' -> ∀ D, ¬ q1kx a' D := fun y D => q1ky (y.g.defers.none (fun h => h)) D
 have y1b := y1.putE hJ hErl (fun D h => (hnm y1 D h).elim) (.loop { rec with state := .busy })
 have hlt1 := (qF.1 hl1).1
 have hWb : (w₁.putObj l2 (.loop { rec with state := .busy })).heap[l2]? = some (.loop { rec with state := .busy }) := World.putObj_heap_same hlt1
 refine wpIn_mono (hS1 B1 Er X1 a₁ _ hs1 fp1 y1b (some l2) (fun l' e => by cases e; exact ⟨hErl, _, hWb⟩) (fun _ h => by cases h)) ?_
 rintro e a3 W3 ⟨S', m', B3, X3, hs3, fp3, y3, s3, q⟩
 have hl3 : W3.heap[l2]? = some (.loop { rec with state := .busy }) := (y1b.keepE s3 hErl).trans hWb
 have hlt3 := (qF.1 hl3).1
 have y4 := y3.putE hJ hErl (fun D h => (hnm y3 D h).elim) (.loop rec)
 have hl4 : (W3.putObj l2 (.loop rec)).heap[l2]? = some (.loop rec) := World.putObj_heap_same hlt3
 have hsz1 := s1.size
 have hsz3 := s3.size
 rw [World.putObj_size] at hsz3
 -- the whole round
 have kpT : ∀ c, c < W.heap.size -> ¬ X c -> (∀ j, c ∉ fpc j) -> (W3.putObj l2 (.loop rec)).heap[c]? = W.heap[c]? := fun c hc hx hf => by
  by_cases e : c = l2
  ·rw [e, hl4, hl]
  ·have ho : ¬ frO { tmps := a.tmps.setIfInBounds p v, defers := [] } hsc fpc False c := fun h => h.elim (fun ⟨j, hj⟩ => hf j hj) (q1ky rfl c)
   rw [World.putObj_heap_other e, s3.kp c (by rw [World.putObj_size]; omega) (fun h => ?_) (fun h => ?_), World.putObj_heap_other e]
   ·exact s1.kp c hc hx ho
   ·rcases s1.gx c h with h2 | h2
    ·exact hx h2
    ·omega
   ·rcases s1.go c h with h2 | h2
    ·exact ho h2
    ·omega
 have gxT : ∀ c, X3 c -> X c ∨ W.heap.size <= c := fun c h => by
  rcases s3.gx c h with h | h
  ·exact s1.gx c h
  ·rw [World.putObj_size] at h; exact .inr (by omega)
 have gbT : ∀ c, B3 c -> B c ∨ W.heap.size <= c := fun c h => by
  rcases s3.gb c h with h | h
  ·exact s1.gb c h
  ·rw [World.putObj_size] at h; exact .inr (by omega)
 have bmT : ∀ c, B c -> B3 c := fun c h => s3.bm c (s1.bm c h)
 have goT : ∀ j c, c ∈ fp3 j -> (∃ q, q ∈ srcs /\ c ∈ fp q) ∨ W.heap.size <= c := fun j c h => by
  rcases s3.go c (.inl ⟨j, h⟩) with h | h
  ·rcases s1.go c h with h | h
   ·rcases h with ⟨j, hj⟩ | h
    ·exact .inl (hcfp j c hj)
    ·exact absurd h (q1ky rfl c)
   ·exact .inr h
  ·rw [World.putObj_size] at h; exact .inr (by omega)
 have hdT : ∀ r h, 1000000000 <= r -> hs3 r = some h -> hsc r = some h := fun r h hr hh => s1.hd r h hr (s3.hd r h hr hh)
 have hrc : srcs.length = rin.length := (q0th hsrc).1
 -- what waits is taken up again
 have fin : ∀ {K : List T -> Prop}, q0pz S' rin.length 1000000000 (fun rout => T.noShL rout /\ K rout) -> ∃ rout fp5, K rout /\ YOK J mkp n (setS Sm srcs rout) m' B3 (fun c => E0 c ∨ B2 c) X3 a (W3.putObj l2 (.loop rec)) hs fp5 /\ RndY l2 X X3 B B3 hs hs fp fp5 W (W3.putObj l2 (.loop rec)) := by
  intro K h
  obtain ⟨rout, ⟨hns, hK⟩, hrl, hrr⟩ := q0q2 h
  let fpo : Nat -> List Nat := fun r => if 1000000000 <= r /\ r < 1000000000 + rin.length then fp3 r else []
  have hin : ∀ r b, b ∈ fpo r -> b ∈ fp3 r := fun r b hb => by
   simp only [fpo] at hb
   split at hb
   ·exact hb
   ·simp at hb
  obtain ⟨fp5, g5, hf5⟩ := y.g.backY (X2 := fun c => (E0 c ∨ B2 c) ∨ X3 c) (W' := W3.putObj l2 (.loop rec)) (rin := rin) (rout := rout) (fp' := fpo) (hsc := hsc) hsn hsrc hrl (by rw [World.putObj_size]; omega)
   (fun c hc hx hq => kpT c hc (fun h => hx (.inr h)) fun j hj => by obtain ⟨q, h1, h2⟩ := hcfp j c hj; exact hq q h1 h2)
   (fun r hr c hc => kpT c (y.g.lt hc) (fun h => y.g.foreign r c hc (.inr h)) fun j hj => by
    obtain ⟨q, h1, h2⟩ := hcfp j c hj
    have := y.g.disj r q c hc h2
    exact hr (this ▸ h1))
   hhc (fun i t hi => by
    obtain ⟨hil, rfl⟩ := qK.1 hi
    have hpo : fpo (1000000000 + i) = fp3 (1000000000 + i) := if_pos ⟨by omega, by omega⟩
    rw [hpo]
    have h5 := y4.g.root (1000000000 + i)
    rcases hrr i hil with h1 | ⟨h1, h0⟩
    ·rw [h1] at h5
     obtain ⟨x, hx, ho, _⟩ := h5
     exact ⟨x, hdT _ _ (by omega) hx, ho.noSh ((T.noShL_iff rout).1 hns _ (rJ hil)), .inl (y4.g.rooty _ _ _ h1)⟩
    ·rw [h1] at h5
     have h3 : fp3 (1000000000 + i) = [] := h5
     obtain ⟨x, hx, _⟩ := hm.root i _ (qB (by omega))
     refine ⟨x, hx, ?_, .inr h0⟩
     rw [h3, h0]; exact .rd (.any _))
   (fun r r' b h h' => y4.g.disj r r' b (hin r b h) (hin r' b h')) (fun r => by
    simp only [fpo]
    split
    ·exact y4.g.nodup r
    ·simp)
   (fun j b hb => goT j b (hin j b hb))
   (fun b hb => by
    rcases hb with hb | hb
    ·exact .inl (.inl hb)
    ·exact (gxT b hb).imp .inr id)
   (fun b hb => by
    rcases hb with hb | hb
    ·have := hEX b (.inl hb); rw [World.putObj_size]; omega
    ·exact y4.g.xold b (.inr hb))
   (fun j b hb => by
    have hb := hin j b hb
    rintro ((h1 | h1) | h1)
    ·exact y4.g.foreign j b hb (.inl (.inl h1))
    ·rcases goT j b hb with ⟨q, _, hq⟩ | h2
     ·exact y.g.foreign q b hq (.inl (.inr h1))
     ·have := hEX b (.inl (.inr h1)); omega
    ·exact y4.g.foreign j b hb (.inr h1))
   hns (fun D hD => by
    have hDl := (qF.1 (q1kz y.g hD).2).1
    have hDB := y.ob D (.inr hD)
    refine ⟨kpT D hDl (y.bx D hDB).1 fun j hj => ?_, ?_⟩
    ·obtain ⟨q, _, hq⟩ := hcfp j D hj
     exact y.g.notMark (q1kz y.g hD).2 q hq
    ·rintro (h1 | h1)
     ·exact hnO D (.inl h1) (.inr hD)
     ·rcases gxT D h1 with h2 | h2
      ·exact (y.bx D hDB).1 h2
      ·omega)
  have hf5' : ∀ j c, c ∈ fp5 j -> (∃ i, c ∈ fp3 i) ∨ ∃ i, c ∈ fp i := fun j c h => by
   rcases hf5 j c h with ⟨i, _, h1⟩ | h1
   ·exact .inl ⟨_, hin _ _ h1⟩
   ·exact .inr ⟨j, h1⟩
  refine ⟨rout, fp5, hK, ⟨g5, y4.j, fun c h => ?_, y4.bx, fun c h => ?_⟩, ⟨by rw [World.putObj_size]; omega, fun c hc hx _ hf => kpT c hc hx fun j hj => ?_, gxT, gbT, bmT, fun j c h => ?_, fun _ _ _ h => h⟩⟩
  ·exact bmT c (y.eb c h)
  ·rcases h with ⟨j, hj⟩ | h
   ·rcases hf5' j c hj with ⟨i, h1⟩ | ⟨i, h1⟩
    ·exact y4.ob c (.inl ⟨i, h1⟩)
    ·exact bmT c (hfpB i c h1)
   ·exact bmT c (y.ob c (.inr h))
  ·obtain ⟨q, _, hq⟩ := hcfp j c hj; exact hf q hq
  ·rcases hf5' j c h with ⟨i, h1⟩ | h1
   ·rcases goT i c h1 with ⟨q, _, hq⟩ | h2
    ·exact .inl ⟨q, hq⟩
    ·exact .inr h2
   ·exact .inl h1
 have hdone : ∀ j, (W3.putObj l2 (.loop rec)).putObj l2 (.loop { rec with state := .done, pending := some j }) = W3.putObj l2 (.loop { rec with state := .done, pending := some j }) := fun j => by
  simp [World.putObj]
 have stop : ∀ j {K : List T -> Prop}, q0pz S' rin.length 1000000000 (fun rout => T.noShL rout /\ K rout) -> (∀ rout, K rout -> q1k7 Q j (setS Sm srcs rout) m') -> ∃ v w', (Instr.endRound l2 (some j)).run P W3 = .ok v w' /\ ∃ b, Ending.returned v = .returned (.bool b) /\ ∃ B' X' S' m' hs' fp', YOK J mkp n S' m' B' (fun c => E0 c ∨ B2 c) X' a w' hs' fp' /\ RndY l2 X X' B B' hs hs' fp fp' W w' ∧
   (if b then S' = Sn /\ m' = mn /\ w'.heap[l2]? = some (.loop rec) else ∃ j, w'.heap[l2]? = some (.loop { rec with state := .done, pending := some j }) /\ q1k7 Q j S' m') := by
  intro j K h hK
  obtain ⟨rout, fp5, hk, y5, r5⟩ := fin h
  refine ⟨_, _, run_endRound (P := P) (some j) hl3, false, rfl, B3, X3, setS Sm srcs rout, m', hs, fp5, ?_, ?_, ?_⟩
  ·have := y5.putE hJ (.inl hlE) (fun D hD e => by
    have := (q1kz y5.g hD).2
    rw [e, hl4] at this; cases this) (.loop { rec with state := .done, pending := some j })
   rw [hdone] at this; exact this
  ·refine ⟨?_, fun c hc hx hcl hf => ?_, r5.gx, r5.gb, r5.bm, r5.go, r5.hd⟩
   ·have := r5.size
    rw [World.putObj_size] at this ⊢; exact this
   ·have := r5.kp c hc hx hcl hf
    rw [World.putObj_heap_other hcl] at this
    rw [World.putObj_heap_other hcl]; exact this
  ·simp only [Bool.false_eq_true, if_false]
   exact ⟨j, World.putObj_heap_same hlt3, hK rout hk⟩
 cases e with
 | normal =>
   obtain ⟨rout, fp5, ⟨hmn, hwk⟩, y5, r5⟩ := fin q
   obtain ⟨hs6, fp6, g6⟩ := hwk _ _ _ _ _ _ _ y5.g
   obtain ⟨B6, y6, s6⟩ := y5.next hJ g6
   have hend := run_endRound (P := P) none hl3
   have erec : ({ ({ rec with state := .busy } : Loop) with state := if (none : Option Code).isNone then .ready else .done, pending := none } : Loop) = rec := by
    cases rec; simp_all
   rw [erec] at hend
   refine ⟨_, _, hend, true, rfl, B6, X3, Sn, m', hs6, fp6, y6, ⟨r5.size, r5.kp, r5.gx, fun c h => ?_, fun c h => s6.bm c (r5.bm c h), fun j c h => ?_, fun r h hr hh => r5.hd r h hr (s6.hd r h hr hh)⟩, ?_⟩
   ·rcases s6.gb c h with h1 | h1
    ·exact r5.gb c h1
    ·exact .inr (rA r5.size h1)
   ·rcases s6.go c (.inl ⟨j, h⟩) with h1 | h1
    ·rcases h1 with ⟨i, h1⟩ | h1
     ·exact r5.go i c h1
     ·exact (y6.g.notMark (q1kz y6.g h1).2 j h).elim
    ·exact .inr (rA r5.size h1)
   ·simp only [if_true]
    exact ⟨trivial, hmn, hl4⟩
 | ret => exact stop .ret q fun rout h => .inl ⟨rfl, h⟩
 | exit id => exact stop (.exit id) q fun rout h => .inr ⟨id, rfl, h⟩
 | goto t => exact q.elim
 | panic ch => exact q.elim
 | outgrown => exact q.elim
end
end Go.Ab
