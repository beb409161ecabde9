/- The abstract layer, part 22: operations that only give a value: which slots they look at, and that their value is determined. -/
import Derived.Test.YtnnmgdngfofjlaaGreatDoorQ1
set_option linter.unusedSimpArgs false
set_option linter.unusedVariables false
set_option maxRecDepth 20000
namespace Go.Ab

def CO.reads : CO -> List Operand
 | .move _ x | .un _ _ x | .extract _ x _ | .lenS _ x | .lenT _ x | .fld _ _ x | .load1 _ x | .loadN _ _ x | .box _ x | .boxL _ x | .conv _ _ x | .nilc _ x | .fldV _ _ x | .strB _ x => [x]
 | .pick _ c x y => [c, x, y]
 | .bin _ _ x y | .beq _ _ x y | .idx _ _ x y | .idxA _ _ _ x y | .store _ x y | .make _ _ _ x y | .app _ _ _ x y | .mm _ _ x y | .idxV _ _ x y | .copyS _ x y => [x, y]
 | .alloc _ _ => []
 | .build _ _ _ ps | .bslice _ _ _ ps => ps.map (·.2)
 | .mkf _ _ caps => caps
 | .call _ f as => .tmp 1000000 :: f :: as
 | .bad _ => []
 | .beqS _ _ _ x y => [x, y]
 | .isNil _ _ x => [x]
 | .slc _ _ x lo hi => x :: (lo.toList ++ hi.toList)

def q0id (x : A) (S : St) (K : A -> Prop) : Prop :=
 match x with
 | .t (.pin l off) => off < l.length /\ ∀ c, l[off]? = some c -> K (.t c)
 | .ptr r off => (match (S.roots r).cells with
   | some (l, lk) => off < l.length /\ (match lk.lookup off with
     | some q => K (.own q)
     | none => ∀ c, l[off]? = some c -> c.flat = true /\ K (.t c))
   | none => False)
 | .own r => (match S.roots r with
   | .live (.box l) lk => 0 < l.length /\ (match lk.lookup 0 with
     | some q => K (.own q)
     | none => ∀ c, l[0]? = some c -> c.flat = true /\ K (.t c))
   | _ => False)
 | _ => False
def q05w (l : List T) (lk : List (Nat × Nat)) (off z : Nat) (K : A -> Prop) : Prop :=
 if (((l.drop off).take z).all T.flat && noLk off z lk) = true then K (.t (.agg ((l.drop off).take z)))
 else q0pd lk off ((l.drop off).take z) = true /\ K (.agg (q0p8 lk off ((l.drop off).take z)))
def q0ip (z : Nat) (x : A) (S : St) (K : A -> Prop) : Prop :=
 match x with
 | .t (.pin l off) => off + z <= l.length /\ K (.t (.agg ((l.drop off).take z)))
 | .ptr r off => (match (S.roots r).cells with
   | some (l, lk) => off + z <= l.length /\ q05w l lk off z K
   | none => False)
 | .own r => (match S.roots r with
   | .live (.box l) lk => z <= l.length /\ q05w l lk 0 z K
   | _ => False)
 | _ => False
theorem q05z {l : List T} {lk : List (Nat × Nat)} {off z : Nat} {K : A -> Prop} (h : q05w l lk off z K) : ∃ x, K x /\ ∀ K' : A -> Prop, K' x -> q05w l lk off z K' := by
 unfold q05w at h ⊢
 split at h
 ·rename_i hc; exact ⟨_, h, fun K' hK => by rw [if_pos hc]; exact hK⟩
 ·rename_i hc; exact ⟨_, h.2, fun K' hK => by rw [if_neg hc]; exact ⟨h.1, hK⟩⟩
theorem q05x {l : List T} {lk : List (Nat × Nat)} {r off z d : Nat} {S : St} {K : St -> Prop} (h : q05w l lk off z fun a => K { S with env := upd S.env d a }) : q05u l lk r off z d K S := by
 unfold q05w at h
 unfold q05u
 split at h
 ·rename_i hc; rw [if_pos hc]; exact h
 ·rename_i hc; rw [if_neg hc, if_pos h.1]; exact h.2

def q004 (P : Program) (n : Nat) (f : Operand) (as : List Operand) (ρ : Operand -> A) (R : Nat -> Root) (K : A -> Prop) : Prop :=
 ∃ x, K x /\ ∀ (d : Nat) (e : Nat -> A) (R' : Nat -> Root) (Kc : St -> Prop), (∀ r, R r = .free ∨ R' r = R r) -> (∀ y, y ∈ .tmp 1000000 :: f :: as -> St.ev ⟨e, R'⟩ y = ρ y) -> Kc ⟨upd e d x, R'⟩ -> q006 P n (some d) f as Kc ⟨e, R'⟩

def coV (P : Program) (n : Nat) : CO -> (Operand -> A) -> St -> (A -> Prop) -> Prop
 | .move _ x, ρ, S, K => K (ρ x)
 | .pick _ c x y, ρ, S, K => q0o6 (ρ c) (ρ x) (ρ y) K
 | .bin _ op x y, ρ, S, K => binW op (ρ x) (ρ y) K
 | .beq _ ne x y, ρ, S, K => beqC ne (ρ x) (ρ y) K
 | .un _ op x, ρ, S, K => unW op (ρ x) K
 | .extract _ x i, ρ, S, K => q08w (ρ x) i K
 | .lenS _ x, ρ, S, K => lenC (ρ x) S K
 | .strB _ x, ρ, S, K => strC (ρ x) S K
 | .lenT _ x, ρ, S, K => q0i2 (ρ x) K
 | .idx _ z x y, ρ, S, K => idxC z (ρ x) (ρ y) S K
 | .fld _ off x, ρ, S, K => fldC off (ρ x) S K
 | .load1 _ x, ρ, S, K => q0id (ρ x) S K
 | .loadN _ z x, ρ, S, K => q0ip z (ρ x) S K
 | .build _ zs pl parts, ρ, S, K => q02w zs pl (parts.map fun p => (p.1, ρ p.2)) K
 | .conv _ k x, ρ, S, K => q07p k (ρ x) K
 | .nilc _ x, ρ, S, K => q0lp (ρ x) S K
 | .mkf _ f caps, ρ, S, K => K (.fn f (caps.map ρ))
 | .mm _ mx x y, ρ, S, K => mmW mx (ρ x) (ρ y) K
 | .call (some _) f as, ρ, S, K => q004 P n f as ρ S.roots K
 | .beqS _ ne m x y, ρ, S, K => q01s ne m (ρ x) (ρ y) K
 | .slc _ z x lo hi, ρ, S, K => slcC z (ρ x) (lo.map ρ) (hi.map ρ) S K
 | .idxA _ len z x y, ρ, S, K => arrC len z (ρ x) (ρ y) S K
 | _, _, _, _ => False

section
variable {P : Program} {n : Nat} {S : St}

theorem q08u {α : Type} {l : List α} {i : Nat} (h : i < l.length) : ∃ c, l[i]? = some c := ⟨_, List.getElem?_eq_getElem h⟩

theorem q0ih {x : A} {K : A -> Prop} (h : q0id x S K) : ∃ v, K v /\ ∀ K' : A -> Prop, K' v -> q0id x S K' := by
 unfold q0id at h ⊢
 split at h
 ·obtain ⟨c, hc⟩ := q08u h.1
  exact ⟨_, h.2 c hc, fun K' hK => ⟨h.1, fun c' hc' => by rw [hc] at hc'; cases hc'; exact hK⟩⟩
 ·split at h
  ·split at h
   ·exact ⟨_, h.2, fun K' hK => ⟨h.1, hK⟩⟩
   ·obtain ⟨c, hc⟩ := q08u h.1
    exact ⟨_, (h.2 c hc).2, fun K' hK => ⟨h.1, fun c' hc' => by rw [hc] at hc'; cases hc'; exact ⟨(h.2 c hc).1, hK⟩⟩⟩
  ·exact h.elim
 ·split at h
  ·split at h
   ·exact ⟨_, h.2, fun K' hK => ⟨h.1, hK⟩⟩
   ·obtain ⟨c, hc⟩ := q08u h.1
    exact ⟨_, (h.2 c hc).2, fun K' hK => ⟨h.1, fun c' hc' => by rw [hc] at hc'; cases hc'; exact ⟨(h.2 c hc).1, hK⟩⟩⟩
  ·exact h.elim
 ·exact h.elim

theorem q024 {op : BinOp} {k : IntKind} {a b : Int} {K : A -> Prop} (h : binI op k a b K) : ∃ v, K v /\ ∀ K' : A -> Prop, K' v -> binI op k a b K' := by
 cases op <;> simp only [binI] at h ⊢ <;> first
  | exact h.elim
  | exact ⟨_, h, fun _ h => h⟩
  | exact ⟨_, h.2, fun _ h' => ⟨h.1, h'⟩⟩

theorem q210 {op : BinOp} {a b : ByteArray} {K : A -> Prop} (h : binS op a b K) : ∃ v, K v /\ ∀ K' : A -> Prop, K' v -> binS op a b K' := by
 cases op <;> simp only [binS] at h ⊢ <;> first
  | exact h.elim
  | exact ⟨_, h, fun _ h => h⟩
  | exact ⟨_, h.2, fun _ h' => ⟨h.1, h'⟩⟩

theorem q07f {c : CO} {ρ : Operand -> A} {K : A -> Prop} (h : coV P n c ρ S K) : ∃ v, K v /\ ∀ K' : A -> Prop, K' v -> coV P n c ρ S K' := by
 unfold coV at h
 split at h
 ·exact ⟨_, h, fun _ h => h⟩
 ·unfold q0o6 at h
  unfold coV q0o6
  split at h
  ·rename_i b hb
   cases b
   ·exact ⟨_, h.2 rfl, fun K' hK => by simp only [hb]; exact ⟨fun e => (by cases e), fun _ => hK⟩⟩
   ·exact ⟨_, h.1 rfl, fun K' hK => by simp only [hb]; exact ⟨fun _ => hK, fun e => (by cases e)⟩⟩
  ·exact h.elim
 ·unfold binW at h
  unfold coV binW
  split at h
  ·rename_i hx hy
   split at h
   ·exact ⟨_, h.2, fun K' hK => by simp only [hx, hy]; exact ⟨h.1, hK⟩⟩
   ·exact ⟨_, h.2, fun K' hK => by simp only [hx, hy]; exact ⟨h.1, hK⟩⟩
   ·rename_i n1 n2
    obtain ⟨v, h1, h2⟩ := q024 h.2
    refine ⟨v, h1, fun K' hK => ?_⟩
    simp only [hx, hy]
    exact ⟨h.1, h2 K' hK⟩
  ·rename_i sa sb hx hy
   obtain ⟨v, h1, h2⟩ := q210 h
   exact ⟨v, h1, fun K' hK => by simp only [hx, hy]; exact h2 K' hK⟩
  ·exact h.elim
 ·unfold beqC at h
  unfold coV beqC
  split at h
  ·rename_i hx hy; exact ⟨_, h, fun K' hK => by simp only [hx, hy]; exact hK⟩
  ·exact h.elim
 ·unfold unW at h
  unfold coV unW
  split at h
  ·rename_i hx; exact ⟨_, h, fun K' hK => by simp only [hx]; exact hK⟩
  ·rename_i hx; exact ⟨_, h, fun K' hK => by simp only [hx]; exact hK⟩
  ·exact h.elim
 ·unfold q08w at h
  unfold coV q08w
  split at h
  ·rename_i hx; obtain ⟨a, ha, hK⟩ := h; exact ⟨_, hK, fun K' hK => by simp only [hx]; exact ⟨a, ha, hK⟩⟩
  ·rename_i hx; obtain ⟨a, ha, hK⟩ := h; exact ⟨_, hK, fun K' hK => by simp only [hx]; exact ⟨a, ha, hK⟩⟩
  ·exact h.elim
 ·unfold lenC at h
  unfold coV lenC
  split at h
  ·rename_i hx; exact ⟨_, h, fun K' hK => by simp only [hx]; exact hK⟩
  ·rename_i hx; exact ⟨_, h.2, fun K' hK => by simp only [hx]; exact ⟨h.1, hK⟩⟩
  ·rename_i hx
   split at h
   ·rename_i hr; exact ⟨_, h.2, fun K' hK => by simp only [hx, hr]; exact ⟨h.1, hK⟩⟩
   ·exact h.elim
  ·rename_i hx; exact ⟨_, h, fun K' hK => by simp only [hx]; exact hK⟩
  ·exact h.elim
 ·unfold strC at h
  unfold coV strC
  split at h
  ·rename_i hx
   split at h
   ·rename_i hr
    split at h
    ·rename_i hb; exact ⟨_, h, fun K' hK => by simp only [hx, hr, hb]; exact hK⟩
    ·exact h.elim
   ·exact h.elim
  ·exact h.elim
 ·unfold q0i2 at h
  unfold coV q0i2
  split at h
  ·rename_i hx; exact ⟨_, h, fun K' hK => by simp only [hx]; exact hK⟩
  ·exact h.elim
 ·unfold idxC at h
  unfold coV idxC
  split at h
  ·rename_i hy
   obtain ⟨h0, h⟩ := h
   split at h
   ·rename_i hx; exact ⟨_, h.2.2, fun K' hK => by simp only [hx, hy]; exact ⟨h0, h.1, h.2.1, hK⟩⟩
   ·rename_i hx
    split at h
    ·rename_i hr; exact ⟨_, h.2.2, fun K' hK => by simp only [hx, hy, hr]; exact ⟨h0, h.1, h.2.1, hK⟩⟩
    ·exact h.elim
   ·rename_i hx; exact ⟨_, h.2, fun K' hK => by simp only [hx, hy]; exact ⟨h0, h.1, hK⟩⟩
   ·exact h.elim
  ·exact h.elim
 ·unfold fldC at h
  unfold coV fldC
  split at h
  ·rename_i hx; exact ⟨_, h, fun K' hK => by simp only [hx]; exact hK⟩
  ·rename_i hx; exact ⟨_, h, fun K' hK => by simp only [hx]; exact hK⟩
  ·rename_i hx
   split at h
   ·rename_i hr; exact ⟨_, h, fun K' hK => by simp only [hx, hr]; exact hK⟩
   ·exact h.elim
  ·exact h.elim
 ·exact q0ih h
 ·unfold q0ip at h
  unfold coV q0ip
  split at h
  ·rename_i hx; exact ⟨_, h.2, fun K' hK => by simp only [hx]; exact ⟨h.1, hK⟩⟩
  ·rename_i hx
   split at h
   ·rename_i hr
    obtain ⟨x, h1, h2⟩ := q05z h.2
    exact ⟨x, h1, fun K' hK => by simp only [hx, hr]; exact ⟨h.1, h2 K' hK⟩⟩
   ·exact h.elim
  ·rename_i hx
   split at h
   ·rename_i hr
    obtain ⟨x, h1, h2⟩ := q05z h.2
    exact ⟨x, h1, fun K' hK => by simp only [hx, hr]; exact ⟨h.1, h2 K' hK⟩⟩
   ·exact h.elim
  ·exact h.elim
 ·unfold q02w at h
  unfold coV q02w
  split at h
  ·rename_i hx; exact ⟨_, h, fun K' hK => by simp only [hx]; exact hK⟩
  ·exact h.elim
 ·unfold q07p at h
  unfold coV q07p
  split at h
  ·rename_i hx; exact ⟨_, h, fun K' hK => by simp only [hx]; exact hK⟩
  ·exact h.elim
 ·unfold q0lp at h
  unfold coV q0lp
  split at h
  ·rename_i hx; exact ⟨_, h, fun K' hK => by simp only [hx]; exact hK⟩
  ·rename_i hx
   split at h
   ·rename_i hr; exact ⟨_, h, fun K' hK => by simp only [hx, hr]; exact hK⟩
   ·exact h.elim
  ·rename_i hx; exact ⟨_, h, fun K' hK => by simp only [hx]; exact hK⟩
  ·rename_i hx; exact ⟨_, h, fun K' hK => by simp only [hx]; exact hK⟩
  ·exact h.elim
 ·exact ⟨_, h, fun _ h => h⟩
 ·unfold mmW at h
  unfold coV mmW
  split at h
  ·rename_i hx hy; exact ⟨_, h, fun K' hK => by simp only [hx, hy]; exact hK⟩
  ·exact h.elim
 ·obtain ⟨x, hK, hall⟩ := h
  exact ⟨x, hK, fun K' hK' => ⟨x, hK', hall⟩⟩
 ·unfold q01s at h
  unfold coV q01s
  split at h
  ·rename_i hx hy; exact ⟨_, h.2.2, fun K' hK => by simp only [hx, hy]; exact ⟨h.1, h.2.1, hK⟩⟩
  ·exact h.elim
 ·unfold slcC at h
  unfold coV slcC
  split at h
  ·rename_i hx; exact ⟨_, h.2.2, fun K' hK => by simp only [hx]; exact ⟨h.1, h.2.1, hK⟩⟩
  ·rename_i hx
   split at h
   ·rename_i h1 h2; exact ⟨_, h.2.2.2, fun K' hK => by simp only [hx, h1, h2]; exact ⟨h.1, h.2.1, h.2.2.1, hK⟩⟩
   ·exact h.elim
  ·rename_i hx
   split at h
   ·rename_i hr
    split at h
    ·rename_i h1 h2; exact ⟨_, h.2.2.2, fun K' hK => by simp only [hx, hr, h1, h2]; exact ⟨h.1, h.2.1, h.2.2.1, hK⟩⟩
    ·exact h.elim
   ·exact h.elim
  ·exact h.elim
 ·unfold arrC at h
  unfold coV arrC
  split at h
  ·rename_i hy
   obtain ⟨h0, h1, h⟩ := h
   split at h
   ·rename_i hx; exact ⟨_, h, fun K' hK => by simp only [hx, hy]; exact ⟨h0, h1, hK⟩⟩
   ·rename_i hx; exact ⟨_, h, fun K' hK => by simp only [hx, hy]; exact ⟨h0, h1, hK⟩⟩
   ·rename_i hx
    split at h
    ·rename_i hr; exact ⟨_, h, fun K' hK => by simp only [hx, hy, hr]; exact ⟨h0, h1, hK⟩⟩
    ·exact h.elim
   ·exact h.elim
  ·exact h.elim
 ·exact h.elim

theorem q07e {c : CO} {ρ ρ' : Operand -> A} {K : A -> Prop} (hρ : ∀ x ∈ c.reads, ρ' x = ρ x) (h : coV P n c ρ S K) : coV P n c ρ' S K := by
 cases c <;> simp only [CO.reads, List.mem_cons, List.not_mem_nil, or_false, forall_eq_or_imp, forall_eq] at hρ <;> simp only [coV] at h ⊢
 case build zs pl parts =>
  have : (parts.map fun p => (p.1, ρ' p.2)) = parts.map fun p => (p.1, ρ p.2) := List.map_congr_left fun p hp => by rw [hρ _ (List.mem_map.2 ⟨p, hp, rfl⟩)]
  rw [this]; exact h
 case mkf d f caps =>
  have : caps.map ρ' = caps.map ρ := List.map_congr_left fun p hp => hρ p hp
  rw [this]; exact h
 case call d f as =>
  cases d with
  | none => exact h
  | some d =>
    obtain ⟨x, hK, hall⟩ := h
    refine ⟨x, hK, fun d e R' Kc h1 h2 h3 => hall d e R' Kc h1 (fun y hy => (h2 y hy).trans ?_) h3⟩
    rcases List.mem_cons.1 hy with rfl | hy
    ·exact hρ.1
    rcases List.mem_cons.1 hy with rfl | hy
    ·exact hρ.2.1
    ·exact hρ.2.2 y hy
 case slc d z x lo hi =>
  have h1 : lo.map ρ' = lo.map ρ := by
   cases lo with
   | none => rfl
   | some y => simp [hρ.2 y (by simp)]
  have h2 : hi.map ρ' = hi.map ρ := by
   cases hi with
   | none => rfl
   | some y => simp [hρ.2 y (by simp)]
  rw [hρ.1, h1, h2]; exact h
 all_goals first
  | exact h
  | (rw [hρ]; exact h)
  | (rw [hρ.1, hρ.2]; exact h)
  | (rw [hρ.1, hρ.2.1, hρ.2.2]; exact h)

theorem q07g {c : CO} {ρ : Operand -> A} {K : A -> Prop} {e : Nat -> A} {M : Nat -> Root} (hM : ∀ r, M r = .free ∨ S.roots r = M r) (h : coV P n c ρ ⟨e, M⟩ K) : coV P n c ρ S K := by
 have live : ∀ {r t lk}, M r = .live t lk -> S.roots r = .live t lk := fun {r t lk} hr => by
  rcases hM r with h | h
  ·rw [h] at hr; cases hr
  ·rw [h, hr]
 have cells : ∀ {r p}, (M r).cells = some p -> (S.roots r).cells = some p := fun {r p} hr => by
  rcases hM r with h | h
  ·rw [h] at hr; simp [Root.cells] at hr
  ·rw [h, hr]
 cases c <;> simp only [coV] at h ⊢
 case lenS =>
  unfold lenC at h ⊢
  split at h
  ·exact h
  ·exact h
  ·split at h
   ·rename_i hr; simp only [live hr]; exact h
   ·exact h.elim
  ·exact h
  ·exact h.elim
 case strB =>
  unfold strC at h ⊢
  split at h
  ·split at h
   ·rename_i hr; simp only [live hr]; exact h
   ·exact h.elim
  ·exact h.elim
 case idx =>
  unfold idxC at h ⊢
  split at h
  ·refine ⟨h.1, ?_⟩
   have h2 := h.2
   split at h2
   ·exact h2
   ·split at h2
    ·rename_i hr; simp only [live hr]; exact h2
    ·exact h2.elim
   ·exact h2
   ·exact h2.elim
  ·exact h.elim
 case fld =>
  unfold fldC at h ⊢
  split at h
  ·exact h
  ·exact h
  ·split at h
   ·rename_i hr; simp only [live hr]; exact h
   ·exact h.elim
  ·exact h.elim
 case load1 =>
  unfold q0id at h ⊢
  split at h
  ·exact h
  ·split at h
   ·rename_i hr; simp only [cells hr]; exact h
   ·exact h.elim
  ·split at h
   ·rename_i hr; simp only [live hr]; exact h
   ·exact h.elim
  ·exact h.elim
 case loadN =>
  unfold q0ip at h ⊢
  split at h
  ·exact h
  ·split at h
   ·rename_i hr; simp only [cells hr]; exact h
   ·exact h.elim
  ·split at h
   ·rename_i hr; simp only [live hr]; exact h
   ·exact h.elim
  ·exact h.elim
 case nilc =>
  unfold q0lp at h ⊢
  split at h
  ·exact h
  ·split at h
   ·rename_i hr; simp only [live hr]; exact h
   ·exact h.elim
  ·exact h
  ·exact h
  ·exact h.elim
 case slc =>
  unfold slcC at h ⊢
  split at h
  ·exact h
  ·exact h
  ·split at h
   ·rename_i hr; simp only [live hr]; exact h
   ·exact h.elim
  ·exact h.elim
 case idxA =>
  unfold arrC at h ⊢
  split at h
  ·refine ⟨h.1, h.2.1, ?_⟩
   have h2 := h.2.2
   split at h2
   ·exact h2
   ·exact h2
   ·split at h2
    ·rename_i hr; simp only [live hr]; exact h2
    ·exact h2.elim
   ·exact h2.elim
  ·exact h.elim
 case call d f as =>
  cases d with
  | none => exact h
  | some d =>
    obtain ⟨x, hK, hall⟩ := h
    refine ⟨x, hK, fun d e' R' Kc h1 h2 h3 => hall d e' R' Kc (fun r => ?_) h2 h3⟩
    rcases hM r with h | h
    ·exact .inl h
    ·rcases h1 r with h' | h'
     ·exact .inl (show M r = .free from h.symm.trans h')
     ·exact .inr (show R' r = M r from h'.trans h)
 all_goals exact h

theorem q07h {c : CO} {d : Nat} (hd : c.dst = some d) {K : St -> Prop} (h : coV P n c S.ev S (putK S d K)) : coW P n c K S := by
 cases c <;> simp only [CO.dst, Option.some.injEq, reduceCtorEq] at hd <;> simp only [coV] at h <;> simp only [coW] <;> (try subst hd) <;> try exact h
 case load1 d x =>
  unfold q0id at h
  unfold q0i5
  split at h
  ·rename_i hx; rw [hx]; exact h
  ·rename_i hx; rw [hx]
   split at h
   ·rename_i hr; simp only [hr]
    refine ⟨h.1, ?_⟩
    have h2 := h.2
    split at h2
    ·rename_i hl; simp only [hl]; exact h2
    ·rename_i hl; simp only [hl]
     intro c hc
     have h3 := h2 c hc
     cases c <;> first | exact h3 | (simp [T.flat] at h3)
   ·exact h.elim
  ·rename_i hx; rw [hx]
   split at h
   ·rename_i hr; simp only [hr]
    refine ⟨h.1, ?_⟩
    have h2 := h.2
    split at h2
    ·rename_i hl; simp only [hl]; exact h2
    ·rename_i hl; simp only [hl]
     intro c hc
     have h3 := h2 c hc
     cases c <;> first | exact h3 | (simp [T.flat] at h3)
   ·exact h.elim
  ·exact h.elim
 case loadN d z x =>
  unfold q0ip at h
  unfold q0in
  split at h
  ·rename_i hx; rw [hx]; exact h
  ·rename_i hx; rw [hx]
   split at h
   ·rename_i hr; simp only [hr]; exact ⟨h.1, q05x h.2⟩
   ·exact h.elim
  ·rename_i hx; rw [hx]
   split at h
   ·rename_i hr; simp only [hr]; exact ⟨h.1, q05x h.2⟩
   ·exact h.elim
  ·exact h.elim
 case call f as =>
  obtain ⟨x, hK, hall⟩ := h
  exact hall d S.env S.roots K (fun r => .inr rfl) (fun y _ => rfl) hK
end
end Go.Ab

/- The abstract layer, part 23: operations that change roots: what they do is a list of changes that is determined by the slots and the roots that they look at. -/
namespace Go.Ab

def putE (e : Nat -> A) (d : Option Nat) (x : A) : Nat -> A := match d with | some d => upd e d x | none => e

def apR (D : List (Nat × Root)) (R : Nat -> Root) : Nat -> Root := D.foldl (fun R p => upd R p.1 p.2) R
theorem q00z (D D' : List (Nat × Root)) (R : Nat -> Root) : apR (D ++ D') R = apR D' (apR D R) := by simp [apR, List.foldl_append]
def q0h4 (D : List (Nat × Root)) : List Nat := D.map (·.1)
theorem q012 : ∀ (D : List (Nat × Root)) (R : Nat -> Root) (r : Nat), r ∉ q0h4 D -> apR D R r = R r
 | [], R, r, _ => rfl
 | p :: D, R, r, h => by
   simp only [q0h4, List.map_cons, List.mem_cons, not_or] at h
   show apR D (upd R p.1 p.2) r = R r
   rw [q012 D _ r h.2, q0x1 _ _ _ _ h.1]
theorem q010 : ∀ (D : List (Nat × Root)) (R R' : Nat -> Root) (r : Nat), r ∈ q0h4 D ∨ R r = R' r -> apR D R r = apR D R' r
 | [], R, R', r, h => by
   rcases h with h | h
   ·simp [q0h4] at h
   ·exact h
 | p :: D, R, R', r, h => by
   show apR D (upd R p.1 p.2) r = apR D (upd R' p.1 p.2) r
   refine q010 D _ _ r ?_
   by_cases hr : r = p.1
   ·right; rw [hr, q0x2, q0x2]
   ·rw [q0x1 _ _ _ _ hr, q0x1 _ _ _ _ hr]
    rcases h with h | h
    ·simp only [q0h4, List.map_cons, List.mem_cons] at h
     exact .inl (h.resolve_left hr)
    ·exact .inr h

def q0e0 (d : Nat) (r : Nat) : Prop := r = d ∨ r / 1000 = d + 1
def q0ji (m : List Nat) (R : Nat -> Root) : Nat -> Root := fun r => if m.any (fun d => decide (r = d) || decide (r / 1000 = d + 1)) then .free else R r
theorem q0jm (R : Nat -> Root) : q0ji [] R = R := rfl
theorem q0jn {m : List Nat} {R : Nat -> Root} {r : Nat} (h : q0ji m R r ≠ .free) : q0ji m R r = R r /\ ∀ d ∈ m, ¬ q0e0 d r := by
 unfold q0ji at h ⊢
 split at h
 ·exact absurd rfl h
 ·rename_i h1
  rw [if_neg h1]
  refine ⟨rfl, fun d hd hi => h1 ?_⟩
  rw [List.any_eq_true]
  exact ⟨d, hd, by rcases hi with hi | hi <;> simp [hi]⟩
theorem q0jk {m : List Nat} {R : Nat -> Root} {r d : Nat} (hd : d ∈ m) (h : q0e0 d r) : q0ji m R r = .free := by
 unfold q0ji
 rw [if_pos]
 rw [List.any_eq_true]
 exact ⟨d, hd, by rcases h with h | h <;> simp [h]⟩
theorem q0jl (m : List Nat) (R : Nat -> Root) (r : Nat) : q0ji m R r = .free ∨ R r = q0ji m R r := by
 unfold q0ji
 split
 ·exact .inl rfl
 ·exact .inr rfl

def CO.heavy : CO -> Bool
 | .store .. | .alloc .. | .box .. | .bslice .. | .make .. | .app .. | .load1 .. | .call .. => true
 | _ => false

def Ef (M : Nat -> Root) (d : Option Nat) (D : List (Nat × Root)) (x : A) (e0 : Nat -> A) (reads : List Operand) (W : (Nat -> A) -> (Nat -> Root) -> (St -> Prop) -> Prop) : Prop :=
 (∀ r ∈ q0h4 D, M r ≠ .free ∨ ∃ k, d = some k /\ q0e0 k r) ∧
 ∀ (e : Nat -> A) (R : Nat -> Root) (Kc : St -> Prop), (∀ y ∈ reads, St.ev ⟨e, R⟩ y = St.ev ⟨e0, M⟩ y) -> (∀ r, M r = .free ∨ R r = M r) -> (∀ r ∈ q0h4 D, M r = .free -> R r = .free) -> Kc ⟨putE e d x, apR D R⟩ -> W e R Kc

def q002 (P : Program) (n : Nat) (d : Option Nat) (f : Operand) (as : List Operand) (K : St -> Prop) (S : St) : Prop :=
 ∃ x D, K ⟨putE S.env d x, apR D S.roots⟩ /\ Ef S.roots d D x S.env (.tmp 1000000 :: f :: as) fun e R Kc => q006 P n d f as Kc ⟨e, R⟩
def q000 (P : Program) (n : Nat) (d : Nat) (f : Operand) (as : List Operand) (m : List Nat) (K : St -> Prop) (S : St) : Prop :=
 ∃ x D, (∀ r ∈ q0h4 D, q0e0 d r) /\ K ⟨upd S.env d x, apR D S.roots⟩ /\ Ef (q0ji m S.roots) (some d) D x S.env (.tmp 1000000 :: f :: as) fun e R Kc => q006 P n (some d) f as Kc ⟨e, R⟩

def q0cu : List A -> Option (List T)
 | [] => some []
 | .t c :: l => if c.cell then (q0cu l).map (c :: ·) else none
 | _ => none
def coN : CO -> (St -> Prop) -> St -> Prop
 | .alloc d zs, K, S => newK d q248 K zs S
 | .make d zs eb l c, K, S => makeC zs eb (S.ev l) (S.ev c) d K S
 | .box d x, K, S => (match (q07j (S.ev x)).bind q0cu with | some ts => newK d .box K ts S | none => False)
 | .bslice d z len parts, K, S => (match (q08z (fun i => some (i * z, z)) (List.replicate (len * z) (.t .any)) (parts.map fun p => (p.1, S.ev p.2))).bind q0cu with | some ts => newK d (.arr z) K ts S | none => False)
 | _, _, _ => False
def coC (P : Program) (n : Nat) (all : Bool) (m : List Nat) : CO -> (St -> Prop) -> St -> Prop
 | .call (some d) f as, K, S => all = false /\ q000 P n d f as m K S
 | c, K, S => coN c K S

def coH (P : Program) (n : Nat) : CO -> (St -> Prop) -> St -> Prop
 | .call d f as, K, S => q002 P n d f as K S
 | c, K, S => coW P n c K S

section
variable {P : Program} {n : Nat} {S : St}

theorem q0cv : ∀ {l : List A} {ts : List T} {K : List T -> St -> Prop}, q0cu l = some ts -> K ts S -> q0cw S l K
 | [], ts, K, h, hK => by simp only [q0cu, Option.some.injEq] at h; subst h; exact hK
 | .t c :: l, ts, K, h, hK => by
   simp only [q0cu] at h
   split at h
   ·rename_i hc
    simp only [Option.map_eq_some_iff] at h
    obtain ⟨ts', h1, rfl⟩ := h
    exact ⟨hc, q0cv (K := fun ts S2 => K (c :: ts) S2) h1 hK⟩
   ·cases h

def Loc (M : Nat -> Root) (D : List (Nat × Root)) : Prop := ∀ r ∈ q0h4 D, M r ≠ .free

theorem q0da {a : A} {K : T -> St -> Prop} (h : q0d8 S a K) :
  ∃ t D, Loc S.roots D /\ K t ⟨S.env, apR D S.roots⟩ /\ ∀ e R (K' : T -> St -> Prop), (∀ r, S.roots r = .free ∨ R r = S.roots r) -> K' t ⟨e, apR D R⟩ -> q0d8 ⟨e, R⟩ a K' := by
 unfold q0d8 at h ⊢
 split at h
 ·exact ⟨_, [], fun r hr => by simp [q0h4] at hr, h.2, fun e R K' _ hK => ⟨h.1, hK⟩⟩
 ·rename_i q
  split at h
  ·rename_i hr
   refine ⟨_, [(q, .dead)], fun r hq => ?_, h, fun e R K' hR hK => ?_⟩
   ·have : r = q := by simpa [q0h4] using hq
    rw [this, hr]; intro h; cases h
   ·have : R q = S.roots q := (hR q).resolve_left (by rw [hr]; intro h; cases h)
    simp only [this, hr]; exact hK
  ·exact h.elim
 ·exact h.elim

theorem q00y {M R : Nat -> Root} (D : List (Nat × Root)) (h : ∀ r, M r = .free ∨ R r = M r) : ∀ r, apR D M r = .free ∨ apR D R r = apR D M r := by
 intro r
 by_cases hr : r ∈ q0h4 D
 ·exact .inr (q010 D _ _ r (.inl hr))
 ·rw [q012 D _ r hr, q012 D _ r hr]; exact h r

theorem Loc.append {M : Nat -> Root} {D D' : List (Nat × Root)} (h : Loc M D) (h' : Loc (apR D M) D') (hd : ∀ p ∈ D, p.2 = .dead ∨ True) : ∀ r ∈ q0h4 (D ++ D'), M r ≠ .free ∨ r ∈ q0h4 D := by
 intro r hr
 simp only [q0h4, List.map_append, List.mem_append] at hr
 rcases hr with hr | hr
 ·exact .inl (h r hr)
 ·by_cases hD : r ∈ q0h4 D
  ·exact .inr hD
  ·have := h' r hr
   rw [q012 D _ r hD] at this
   exact .inl this
theorem Loc.join {M : Nat -> Root} {D D' : List (Nat × Root)} (h : Loc M D) (h' : Loc (apR D M) D') : Loc M (D ++ D') := fun r hr => by
 rcases h.append h' (fun _ _ => .inr trivial) r hr with h1 | h1
 ·exact h1
 ·exact h r h1

theorem q0cy : ∀ {as : List A} {S : St} {K : List T -> St -> Prop}, q0cw S as K →
  ∃ ts D, Loc S.roots D /\ K ts ⟨S.env, apR D S.roots⟩ /\ ∀ e R (K' : List T -> St -> Prop), (∀ r, S.roots r = .free ∨ R r = S.roots r) -> K' ts ⟨e, apR D R⟩ -> q0cw ⟨e, R⟩ as K'
 | [], S, K, h => ⟨[], [], fun r hr => by simp [q0h4] at hr, h, fun _ _ _ _ h => h⟩
 | a :: as, S, K, h => by
   obtain ⟨t, D1, l1, h1, h2⟩ := q0da (h : q0d8 S a _)
   obtain ⟨ts, D2, l2, h3, h4⟩ := q0cy h1
   refine ⟨t :: ts, D1 ++ D2, l1.join l2, by rw [q00z]; exact h3, fun e R K' hR hK => h2 e R _ hR (h4 e _ _ (q00y D1 hR) ?_)⟩
   rw [q00z] at hK; exact hK

theorem q01p {x : A} {z : Nat} {K : List T -> St -> Prop} (h : q01n S x z K) :
  ∃ t D, Loc S.roots D /\ K t ⟨S.env, apR D S.roots⟩ /\ ∀ e R (K' : List T -> St -> Prop), (∀ r, S.roots r = .free ∨ R r = S.roots r) -> K' t ⟨e, apR D R⟩ -> q01n ⟨e, R⟩ x z K' := by
 unfold q01n at h ⊢
 split at h
 ·exact ⟨_, [], fun r hr => by simp [q0h4] at hr, h, fun e R K' _ hK => hK⟩
 ·rename_i q
  split at h
  ·rename_i hr
   refine ⟨_, [(q, .dead)], fun r hq => ?_, h.2, fun e R K' hR hK => ?_⟩
   ·have : r = q := by simpa [q0h4] using hq
    rw [this, hr]; intro h; cases h
   ·have : R q = S.roots q := (hR q).resolve_left (by rw [hr]; intro h; cases h)
    simp only [this, hr]; exact ⟨h.1, hK⟩
  ·exact h.elim
 ·exact h.elim

theorem q0te {x : A} {z : Nat} {K : List T -> St -> Prop} (h : srcW S x z K) :
  ∃ t D, Loc S.roots D /\ K t ⟨S.env, apR D S.roots⟩ /\ ∀ e R (K' : List T -> St -> Prop), (∀ r, S.roots r = .free ∨ R r = S.roots r) -> K' t ⟨e, apR D R⟩ -> srcW ⟨e, R⟩ x z K' := by
 unfold srcW at h ⊢
 split at h
 ·exact ⟨_, [], fun r hr => by simp [q0h4] at hr, h, fun e R K' _ hK => hK⟩
 ·exact ⟨_, [], fun r hr => by simp [q0h4] at hr, h.2.2, fun e R K' _ hK => ⟨h.1, h.2.1, hK⟩⟩
 ·rename_i q
  split at h
  ·rename_i s l hr
   obtain ⟨h1, h2, h3⟩ := h
   have hq : ∀ {R : Nat -> Root}, (∀ r, S.roots r = .free ∨ R r = S.roots r) -> R q = S.roots q := fun hR => (hR q).resolve_left (by rw [hr]; intro h; cases h)
   cases hf : l.all T.flat
   ·rw [hf] at h3
    refine ⟨l, [(q, .dead)], fun r hq => ?_, h3, fun e R K' hR hK => ?_⟩
    ·have : r = q := by simpa [q0h4] using hq
     rw [this, hr]; intro h; cases h
    ·simp only [hq hR, hr]; exact ⟨h1, h2, by rw [hf]; exact hK⟩
   ·rw [hf] at h3
    exact ⟨l, [], fun r hr => by simp [q0h4] at hr, h3, fun e R K' hR hK => by simp only [hq hR, hr]; exact ⟨h1, h2, by rw [hf]; exact hK⟩⟩
  ·exact h.elim
 ·rename_i q _ _
  split at h
  ·rename_i hr
   refine ⟨_, [], fun r hr => by simp [q0h4] at hr, h.2.2.2.2, fun e R K' hR hK => ?_⟩
   have : R q = S.roots q := (hR q).resolve_left (by rw [hr]; intro h; cases h)
   simp only [this, hr]; exact ⟨h.1, h.2.1, h.2.2.1, h.2.2.2.1, hK⟩
  ·exact h.elim
 ·exact h.elim

theorem q0l7 {d : Nat} {mk : List T -> T} {K : St -> Prop} {ts : List T} (h : newK d mk K ts S) :
  ∃ D, q0h4 D = [d] /\ S.roots d = .free /\ K ⟨upd S.env d (.own d), apR D S.roots⟩ /\ ∀ e R (K' : St -> Prop), R d = .free -> K' ⟨upd e d (.own d), apR D R⟩ -> newK d mk K' ts ⟨e, R⟩ :=
 ⟨[(d, .live (mk ts) [])], rfl, h.1, h.2, fun e R K' hR hK => ⟨hR, hK⟩⟩

theorem q0tp {r off z : Nat} {K : St -> Prop} {ts : List T} (h : q0tm r off z K ts S) :
  ∃ D, Loc S.roots D /\ K ⟨S.env, apR D S.roots⟩ /\ ∀ e R (K' : St -> Prop), (∀ r, S.roots r = .free ∨ R r = S.roots r) -> K' ⟨e, apR D R⟩ -> q0tm r off z K' ts ⟨e, R⟩ := by
 unfold q0tm at h ⊢
 split at h
 ·rename_i l lk hr
  have hne : S.roots r ≠ .free := by intro hf; rw [hf] at hr; simp [Root.cells] at hr
  refine ⟨[(r, (S.roots r).with (spl l off ts) (lk.filter fun p => p.1 < off || off + z <= p.1))], fun r' hr' => ?_, h.2.2, fun e R K' hR hK => ?_⟩
  ·have : r' = r := by simpa [q0h4] using hr'
   rw [this]; exact hne
  ·have hRr : R r = S.roots r := (hR r).resolve_left hne
   simp only [hRr, hr]
   exact ⟨h.1, h.2.1, hK⟩
 ·exact h.elim

theorem Ef.ofLoc {M : Nat -> Root} {d : Option Nat} {D : List (Nat × Root)} (h : Loc M D) : ∀ r ∈ q0h4 D, M r ≠ .free ∨ ∃ k, d = some k /\ q0e0 k r := fun r hr => .inl (h r hr)

theorem q09z {M R : Nat -> Root} {D : List (Nat × Root)} {d : Nat} (hl : Loc M D) (hd : apR D M d = .free) (hR : ∀ r, M r = .free ∨ R r = M r) (hf : M d = .free -> R d = .free) : apR D R d = .free := by
 by_cases hr : d ∈ q0h4 D
 ·rw [q010 D R M d (.inl hr)]; exact hd
 ·rw [q012 D _ d hr] at hd ⊢
  exact hf hd

theorem q0h5 {M : Nat -> Root} {D1 D2 : List (Nat × Root)} {d : Nat} (h1 : Loc M D1) (h2 : q0h4 D2 = [d]) : ∀ r ∈ q0h4 (D1 ++ D2), M r ≠ .free ∨ ∃ k, some d = some k /\ q0e0 k r := by
 intro r hr
 rw [q0h4, List.map_append, List.mem_append] at hr
 rcases hr with hr | hr
 ·exact .inl (h1 r hr)
 ·have : r = d := by
   have : r ∈ q0h4 D2 := hr
   rw [h2] at this; simpa using this
  exact .inr ⟨d, rfl, .inl this⟩

theorem q0i7 {x : A} {d : Nat} {K : St -> Prop} (h : q0i5 x d K S) : ∃ v D, K ⟨upd S.env d v, apR D S.roots⟩ /\ (∀ r ∈ q0h4 D, S.roots r ≠ .free ∨ ∃ k, some d = some k /\ q0e0 k r) ∧
  ∀ e R (K' : St -> Prop), (∀ r, S.roots r = .free ∨ R r = S.roots r) -> (∀ r ∈ q0h4 D, S.roots r = .free -> R r = .free) -> K' ⟨upd e d v, apR D R⟩ -> q0i5 x d K' ⟨e, R⟩ := by
 have key : ∀ (r off : Nat) (l : List T) (lk : List (Nat × Nat)) (c : T), S.roots r ≠ .free -> q0il S r off d l lk c K -> ∃ v D, K ⟨upd S.env d v, apR D S.roots⟩ /\ (∀ r ∈ q0h4 D, S.roots r ≠ .free ∨ ∃ k, some d = some k /\ q0e0 k r) ∧
   ∀ e R (K' : St -> Prop), (∀ r, S.roots r = .free ∨ R r = S.roots r) -> (∀ r ∈ q0h4 D, S.roots r = .free -> R r = .free) -> K' ⟨upd e d v, apR D R⟩ -> q0il ⟨e, R⟩ r off d l lk c K' := by
  intro r off l lk c hne h
  unfold q0il at h ⊢
  split at h
  ·rename_i s l'
   refine ⟨.own d, [(r, (S.roots r).with (l.set off .any) ((off, d) :: lk)), (d, .live (.arr s l') [])], h.2, fun r' hr' => ?_, fun e R K' hR hf hK => ?_⟩
   ·simp only [q0h4, List.map_cons, List.map_nil, List.mem_cons, List.not_mem_nil, or_false] at hr'
    rcases hr' with rfl | rfl
    ·exact .inl hne
    ·exact .inr ⟨_, rfl, .inl rfl⟩
   ·have hRr : R r = S.roots r := (hR r).resolve_left hne
    simp only [hRr]
    exact ⟨hf d (by simp [q0h4]) h.1, hK⟩
  ·rename_i l'
   refine ⟨.own d, [(r, (S.roots r).with (l.set off .any) ((off, d) :: lk)), (d, .live (.box l') [])], h.2, fun r' hr' => ?_, fun e R K' hR hf hK => ?_⟩
   ·simp only [q0h4, List.map_cons, List.map_nil, List.mem_cons, List.not_mem_nil, or_false] at hr'
    rcases hr' with rfl | rfl
    ·exact .inl hne
    ·exact .inr ⟨_, rfl, .inl rfl⟩
   ·have hRr : R r = S.roots r := (hR r).resolve_left hne
    simp only [hRr]
    exact ⟨hf d (by simp [q0h4]) h.1, hK⟩
  ·exact ⟨_, [], h.2, fun r hr => by simp [q0h4] at hr, fun e R K' _ _ hK => ⟨h.1, hK⟩⟩
 unfold q0i5 at h ⊢
 split at h
 ·obtain ⟨c, hc⟩ := q08u h.1
  exact ⟨_, [], h.2 c hc, fun r hr => by simp [q0h4] at hr, fun e R K' _ _ hK => ⟨h.1, fun c' hc' => by rw [hc] at hc'; cases hc'; exact hK⟩⟩
 ·rename_i r off
  split at h
  ·rename_i hr
   have hne : S.roots r ≠ .free := by intro hf; rw [hf] at hr; simp [Root.cells] at hr
   obtain ⟨h0, h⟩ := h
   split at h
   ·rename_i hl
    refine ⟨_, [], h, fun r hr => by simp [q0h4] at hr, fun e R K' hR _ hK => ?_⟩
    have hRr : R r = S.roots r := (hR r).resolve_left hne
    simp only [hRr, hr, hl]; exact ⟨h0, hK⟩
   ·rename_i hl
    obtain ⟨c, hc⟩ := q08u h0
    obtain ⟨v, D, h1, h2, h3⟩ := key _ _ _ _ _ hne (h c hc)
    refine ⟨v, D, h1, h2, fun e R K' hR hf hK => ?_⟩
    have hRr : R r = S.roots r := (hR r).resolve_left hne
    simp only [hRr, hr, hl]
    exact ⟨h0, fun c' hc' => by rw [hc] at hc'; cases hc'; exact h3 e R K' hR hf hK⟩
  ·exact h.elim
 ·rename_i r
  split at h
  ·rename_i hr
   have hne : S.roots r ≠ .free := by rw [hr]; intro h; cases h
   obtain ⟨h0, h⟩ := h
   split at h
   ·rename_i hl
    refine ⟨_, [], h, fun r hr => by simp [q0h4] at hr, fun e R K' hR _ hK => ?_⟩
    have hRr : R r = S.roots r := (hR r).resolve_left hne
    simp only [hRr, hr, hl]; exact ⟨h0, hK⟩
   ·rename_i hl
    obtain ⟨c, hc⟩ := q08u h0
    obtain ⟨v, D, h1, h2, h3⟩ := key _ _ _ _ _ hne (h c hc)
    refine ⟨v, D, h1, h2, fun e R K' hR hf hK => ?_⟩
    have hRr : R r = S.roots r := (hR r).resolve_left hne
    simp only [hRr, hr, hl]
    exact ⟨h0, fun c' hc' => by rw [hc] at hc'; cases hc'; exact h3 e R K' hR hf hK⟩
  ·exact h.elim
 ·exact h.elim

theorem q00o {R : Nat -> Root} {e : Nat -> A} {x : A} {p : Nat × Nat} (hR : ∀ r, S.roots r = .free ∨ R r = S.roots r) (h : q00n S x = some p) : q00n ⟨e, R⟩ x = some p := by
 unfold q00n at h ⊢
 split at h
 ·exact h
 ·rename_i r
  split at h
  ·rename_i hr
   have hRr : R r = S.roots r := (hR r).resolve_left (by rw [hr]; intro h; cases h)
   simp only [hRr, hr]; exact h
  ·cases h
 ·cases h

theorem q077 {c : CO} {K : St -> Prop} (hk : c.heavy = true) (h : coH P n c K S) :
  ∃ x D, K ⟨putE S.env c.dst x, apR D S.roots⟩ /\ Ef S.roots c.dst D x S.env c.reads fun e R Kc => coW P n c Kc ⟨e, R⟩ := by
 cases c <;> simp only [CO.heavy, Bool.false_eq_true] at hk <;> simp only [coH, coW] at h
 case store z x v =>
  unfold q0tk at h
  split at h
  ·rename_i h1 h2
   obtain ⟨ts, D1, l1, h3, h4⟩ := q0cy h.2
   obtain ⟨D2, l2, h5, h6⟩ := q0tp h3
   refine ⟨.t .any, D1 ++ D2, by rw [q00z]; exact h5, Ef.ofLoc (l1.join l2), fun e R Kc hr hR hf hK => ?_⟩
   simp only [CO.reads, List.mem_cons, List.not_mem_nil, or_false, forall_eq_or_imp, forall_eq] at hr
   show q0tk z (St.ev ⟨e, R⟩ x) (St.ev ⟨e, R⟩ v) Kc ⟨e, R⟩
   unfold q0tk
   rw [hr.1, hr.2, show q00n ⟨e, R⟩ (St.ev ⟨S.env, S.roots⟩ x) = _ from q00o hR h1, show q07j (St.ev ⟨S.env, S.roots⟩ v) = _ from h2]
   exact ⟨h.1, h4 e R _ hR (h6 e _ _ (q00y D1 hR) (by rw [q00z] at hK; exact hK))⟩
  ·exact h.elim
 case alloc d zs =>
  obtain ⟨D, hk, hd, h1, h2⟩ := q0l7 h
  refine ⟨.own d, D, h1, q0h5 (D1 := []) (fun r hr => by simp [q0h4] at hr) hk, fun e R Kc hr hR hf hK => h2 e R Kc (hf d (by rw [hk]; simp) hd) hK⟩
 case box d x =>
  unfold boxW at h
  split at h
  ·rename_i h1
   obtain ⟨ts, D1, l1, h3, h4⟩ := q0cy h
   obtain ⟨D2, hk, hd, h5, h6⟩ := q0l7 h3
   refine ⟨.own d, D1 ++ D2, by rw [q00z]; exact h5, q0h5 l1 hk, fun e R Kc hr hR hf hK => ?_⟩
   simp only [CO.reads, List.mem_cons, List.not_mem_nil, or_false, forall_eq] at hr
   show boxW (St.ev ⟨e, R⟩ x) d ⟨e, R⟩ Kc
   unfold boxW
   rw [hr, show q07j (St.ev ⟨S.env, S.roots⟩ x) = _ from h1]
   refine h4 e R _ hR (h6 e _ _ (q09z l1 hd hR fun hm => hf d ?_ hm) (by rw [q00z] at hK; exact hK))
   rw [q0h4, List.map_append, List.mem_append]; right
   show d ∈ q0h4 D2
   rw [hk]; simp
  ·exact h.elim
 case bslice d z len parts =>
  unfold q02l at h
  split at h
  ·rename_i h1
   obtain ⟨ts, D1, l1, h3, h4⟩ := q0cy h
   obtain ⟨D2, hk, hd, h5, h6⟩ := q0l7 h3
   refine ⟨.own d, D1 ++ D2, by rw [q00z]; exact h5, q0h5 l1 hk, fun e R Kc hr hR hf hK => ?_⟩
   simp only [CO.reads] at hr
   have e1 : (parts.map fun p => (p.1, St.ev ⟨e, R⟩ p.2)) = parts.map fun p => (p.1, S.ev p.2) := List.map_congr_left fun p hp => by rw [hr _ (List.mem_map.2 ⟨p, hp, rfl⟩)]
   show q02l z len d (parts.map fun p => (p.1, St.ev ⟨e, R⟩ p.2)) Kc ⟨e, R⟩
   unfold q02l
   rw [e1, h1]
   refine h4 e R _ hR (h6 e _ _ (q09z l1 hd hR fun hm => hf d ?_ hm) (by rw [q00z] at hK; exact hK))
   rw [q0h4, List.map_append, List.mem_append]; right
   show d ∈ q0h4 D2
   rw [hk]; simp
  ·exact h.elim
 case make d zs eb l c =>
  unfold makeC at h
  split at h
  ·rename_i h1 h2
   obtain ⟨D, hk, hd, h5, h6⟩ := q0l7 h.2.2.2
   refine ⟨.own d, D, h5, q0h5 (D1 := []) (fun r hr => by simp [q0h4] at hr) hk, fun e R Kc hr hR hf hK => ?_⟩
   simp only [CO.reads, List.mem_cons, List.not_mem_nil, or_false, forall_eq_or_imp, forall_eq] at hr
   show makeC zs eb (St.ev ⟨e, R⟩ l) (St.ev ⟨e, R⟩ c) d Kc ⟨e, R⟩
   unfold makeC
   rw [hr.1, hr.2, show St.ev ⟨S.env, S.roots⟩ l = _ from h1, show St.ev ⟨S.env, S.roots⟩ c = _ from h2]
   exact ⟨h.1, h.2.1, h.2.2.1, h6 e R _ (hf d (by rw [hk]; simp) hd) hK⟩
  ·exact h.elim
 case app d z eb b x =>
  obtain ⟨l1, D1, c1, h1, h2⟩ := q01p h
  obtain ⟨l2, D2, c2, h3, h4⟩ := q0te (show srcW _ _ _ _ from h1)
  obtain ⟨D3, hk, hd, h5, h6⟩ := q0l7 (show newK _ _ _ _ _ from h3.2)
  have c12 := c1.join c2
  refine ⟨.own d, (D1 ++ D2) ++ D3, by rw [q00z, q00z]; exact h5, q0h5 c12 hk, fun e R Kc hr hR hf hK => ?_⟩
  simp only [CO.reads, List.mem_cons, List.not_mem_nil, or_false, forall_eq_or_imp, forall_eq] at hr
  show q01n ⟨e, R⟩ (St.ev ⟨e, R⟩ b) z (q014 (St.ev ⟨e, R⟩ x) d z eb Kc)
  rw [hr.1, hr.2]
  refine h2 e R _ hR ?_
  refine h4 e _ _ (q00y D1 hR) ⟨h3.1, h6 e _ _ ?_ (by rw [q00z, q00z] at hK; exact hK)⟩
  have hd' : apR (D1 ++ D2) S.roots d = .free := by rw [q00z]; exact hd
  have := q09z c12 hd' hR fun hm => hf d (by
   rw [q0h4, List.map_append, List.mem_append]; right
   show d ∈ q0h4 D3
   rw [hk]; simp) hm
  rw [q00z] at this; exact this
 case load1 d x =>
  obtain ⟨y, D, h5, h6, h7⟩ := q0i7 h
  refine ⟨y, D, h5, h6, fun e R Kc hr hR hf hK => ?_⟩
  simp only [CO.reads, List.mem_cons, List.not_mem_nil, or_false, forall_eq] at hr
  show q0i5 (St.ev ⟨e, R⟩ x) d Kc ⟨e, R⟩
  rw [hr]; exact h7 e R Kc hR hf hK
 case call d f as =>
  obtain ⟨x, D, h1, h2⟩ := h
  exact ⟨x, D, h1, h2.1, fun e R Kc hr hR hf hK => h2.2 e R Kc hr hR hf hK⟩

theorem q06z {c : CO} {all : Bool} {m : List Nat} {K : St -> Prop} (h : coC P n all m c K S) :
  ∃ d x D, c.dst = some d /\ (∀ r ∈ q0h4 D, q0e0 d r) /\ K ⟨putE S.env c.dst x, apR D S.roots⟩ /\ Ef (if all then fun _ => .free else q0ji m S.roots) c.dst D x S.env c.reads fun e R Kc => coW P n c Kc ⟨e, R⟩ := by
 have mkEf : ∀ {M : Nat -> Root} {d : Nat} {D : List (Nat × Root)} {x : A} {reads : List Operand} {W : (Nat -> A) -> (Nat -> Root) -> (St -> Prop) -> Prop}, q0h4 D = [d] -> M d = .free →
   (∀ e R Kc, (∀ y ∈ reads, St.ev ⟨e, R⟩ y = St.ev ⟨S.env, M⟩ y) -> R d = .free -> Kc ⟨upd e d x, apR D R⟩ -> W e R Kc) -> Ef M (some d) D x S.env reads W := fun {M d D x reads W} hk hd h =>
  ⟨fun r hr => .inr ⟨d, rfl, .inl (by rw [hk] at hr; simpa using hr)⟩, fun e R Kc hr hR hf hK => h e R Kc hr (hf d (by rw [hk]; simp) hd) hK⟩
 have Mfree : ∀ {d : Nat}, S.roots d = .free -> (if all then fun _ => Root.free else q0ji m S.roots) d = .free := fun {d} hd => by
  cases all
  ·rcases q0jl m S.roots d with h | h
   ·exact h
   ·exact h.symm.trans hd
  ·rfl
 have ids : ∀ {d : Nat} {D : List (Nat × Root)}, q0h4 D = [d] -> ∀ r ∈ q0h4 D, q0e0 d r := fun {d D} hk r hr => .inl (by rw [hk] at hr; simpa using hr)
 have evS : ∀ (M : Nat -> Root) (y : Operand), St.ev ⟨S.env, M⟩ y = S.ev y := fun M y => by cases y <;> rfl
 have calls : ∀ d f as, coC P n all m (.call (some d) f as) K S -> ∃ d' x D, (CO.call (some d) f as).dst = some d' /\ (∀ r ∈ q0h4 D, q0e0 d' r) /\ K ⟨putE S.env (CO.call (some d) f as).dst x, apR D S.roots⟩ /\ Ef (if all then fun _ => .free else q0ji m S.roots) (CO.call (some d) f as).dst D x S.env (CO.call (some d) f as).reads fun e R Kc => coW P n (.call (some d) f as) Kc ⟨e, R⟩ := by
  intro d f as h
  obtain ⟨rfl, x, D, h1, h2, h3⟩ := h
  exact ⟨d, x, D, rfl, h1, h2, h3.1, fun e R Kc hr hR hf hK => h3.2 e R Kc hr hR hf hK⟩
 cases c
 case call d f as =>
  cases d with
  | none => exact (h : False).elim
  | some d => exact calls d f as h
 case alloc d zs =>
  obtain ⟨D, hk, hd, h1, h2⟩ := q0l7 (h : newK d q248 K zs S)
  exact ⟨d, .own d, D, rfl, ids hk, h1, mkEf hk (Mfree hd) fun e R Kc _ hR hK => h2 e R Kc hR hK⟩
 case make d zs eb l c =>
  have h : makeC zs eb (S.ev l) (S.ev c) d K S := h
  unfold makeC at h
  split at h
  ·rename_i h1 h2
   obtain ⟨D, hk, hd, h5, h6⟩ := q0l7 h.2.2.2
   refine ⟨d, .own d, D, rfl, ids hk, h5, mkEf hk (Mfree hd) fun e R Kc hr hR hK => ?_⟩
   simp only [CO.reads, List.mem_cons, List.not_mem_nil, or_false, forall_eq_or_imp, forall_eq] at hr
   show makeC zs eb (St.ev ⟨e, R⟩ l) (St.ev ⟨e, R⟩ c) d Kc ⟨e, R⟩
   unfold makeC
   rw [hr.1, hr.2, evS _ l, evS _ c, h1, h2]
   exact ⟨h.1, h.2.1, h.2.2.1, h6 e R _ hR hK⟩
  ·exact h.elim
 case box d x =>
  have h : (match (q07j (S.ev x)).bind q0cu with | some ts => newK d .box K ts S | none => False) := h
  split at h
  ·rename_i ts hts
   obtain ⟨as, h1, h2⟩ := Option.bind_eq_some_iff.1 hts
   obtain ⟨D, hk, hd, h5, h6⟩ := q0l7 h
   refine ⟨d, .own d, D, rfl, ids hk, h5, mkEf hk (Mfree hd) fun e R Kc hr hR hK => ?_⟩
   simp only [CO.reads, List.mem_cons, List.not_mem_nil, or_false, forall_eq] at hr
   show boxW (St.ev ⟨e, R⟩ x) d ⟨e, R⟩ Kc
   unfold boxW
   rw [hr, evS, h1]
   exact q0cv h2 (h6 e R _ hR hK)
  ·exact h.elim
 case bslice d z len parts =>
  have h : (match (q08z (fun i => some (i * z, z)) (List.replicate (len * z) (.t .any)) (parts.map fun p => (p.1, S.ev p.2))).bind q0cu with | some ts => newK d (.arr z) K ts S | none => False) := h
  split at h
  ·rename_i ts hts
   obtain ⟨as, h1, h2⟩ := Option.bind_eq_some_iff.1 hts
   obtain ⟨D, hk, hd, h5, h6⟩ := q0l7 h
   refine ⟨d, .own d, D, rfl, ids hk, h5, mkEf hk (Mfree hd) fun e R Kc hr hR hK => ?_⟩
   simp only [CO.reads] at hr
   have e1 : (parts.map fun p => (p.1, St.ev ⟨e, R⟩ p.2)) = parts.map fun p => (p.1, S.ev p.2) := List.map_congr_left fun p hp => by rw [hr _ (List.mem_map.2 ⟨p, hp, rfl⟩), evS]
   show q02l z len d (parts.map fun p => (p.1, St.ev ⟨e, R⟩ p.2)) Kc ⟨e, R⟩
   unfold q02l
   rw [e1, h1]
   exact q0cv h2 (h6 e R _ hR hK)
  ·exact h.elim
 all_goals exact (h : False).elim
end
end Go.Ab

/- The abstract layer, part 24: a region that draws its order. -/
namespace Go.Ab

inductive DK where
 | r (all : Bool) (m : List Nat)
 | c (all : Bool) (m : List Nat)
 | h (w : Option (List Nat)) (m : List Nat)
deriving DecidableEq
def kE : DK := .r true []
def kR : DK := .r false []
def kN : DK := .c true []
def kH : DK := .h none []

def DK.mask : DK -> (Nat -> Root) -> Nat -> Root
 | .r all m, R => if all then fun _ => .free else q0ji m R
 | .c all m, R => if all then fun _ => .free else q0ji m R
 | .h _ m, R => q0ji m R
def DK.isR : DK -> Bool
 | .r _ _ => true
 | _ => false
def DK.isC : DK -> Bool
 | .c _ _ => true
 | _ => false

def DK.isH : DK -> Bool
 | .h _ _ => true
 | _ => false

def slotsOf (l : List Operand) : List Nat := l.filterMap fun | .tmp t => some t | _ => none
def CI.reads : CI -> List Nat
 | .o c => slotsOf c.reads
 | .g s _ _ c => s :: slotsOf c.reads
def CI.dst : CI -> Option Nat
 | .o c => c.dst
 | .g _ _ d _ => d
def q0qw (k : DK) (d : Option Nat) : Bool := match k with | .h _ [] => true | .h (some _) m => (match d with | some d => decide (d < 1000) && !m.contains d | none => true) && m.all fun d => decide (d < 1000) | .h none _ => false | _ => true
def q0g6 : DK × CI -> Bool
 | (k, .o c) => (!k.isH || c.heavy) && q0qw k c.dst
 | (k, .g _ _ d c) => (!k.isH || c.heavy) && q0qw k c.dst && d == c.dst

def putD (S : St) (d : Option Nat) (K : St -> Prop) (a : A) : Prop := K ⟨putE S.env d a, S.roots⟩
theorem q0oe (S : St) (d : Nat) (K : St -> Prop) (a : A) : putD S (some d) K a = K ⟨upd S.env d a, S.roots⟩ := rfl

instance (d r : Nat) : Decidable (q0e0 d r) := by unfold q0e0; exact inferInstance
def q09v (W : List Nat) (d : Option Nat) (R R' : Nat -> Root) : Prop := ∀ r, (∀ k ∈ W, ¬ q0e0 k r) -> (∀ k, d = some k -> ¬ q0e0 k r) -> R' r = R r
theorem q09v.refl (W : List Nat) (d : Option Nat) (R : Nat -> Root) : q09v W d R R := fun _ _ _ => rfl
theorem q09v.upd {W : List Nat} {d : Option Nat} {R R' : Nat -> Root} {j : Nat} (x : Root) (h : q09v W d R R') (hj : j ∈ W ∨ d = some j) : q09v W d R (Go.Ab.upd R' j x) := fun r h1 h2 => by
 rw [q0x1 _ _ _ _ fun e => ?_]
 ·exact h r h1 h2
 ·rcases hj with hj | hj
  ·exact h1 j hj (.inl e)
  ·exact h2 j hj (.inl e)
def q0k5 (m : List Nat) (R R' : Nat -> Root) : Nat -> Root := fun r => if m.any (fun d => decide (r = d) || decide (r / 1000 = d + 1)) then R r else R' r
theorem q0k9 (m : List Nat) (R R' : Nat -> Root) (i : Nat) (x : Root) : q0k5 m R (Go.Ab.upd R' i x) = if m.any (fun d => decide (i = d) || decide (i / 1000 = d + 1)) then q0k5 m R R' else Go.Ab.upd (q0k5 m R R') i x := by
 funext r
 by_cases hr : r = i
 ·subst hr
  split
  ·rename_i h; simp only [q0k5, h, if_true]
  ·rename_i h; rw [q0x2]; simp only [q0k5]; rw [if_neg h, q0x2]
 ·split
  ·simp only [q0k5]; rw [q0x1 _ _ _ _ hr]
  ·rw [q0x1 _ _ _ _ hr]; simp only [q0k5]; rw [q0x1 _ _ _ _ hr]
theorem q0k8 (m : List Nat) (R : Nat -> Root) : q0k5 m R (q0ji m R) = R := by
 funext r
 simp only [q0k5, q0ji]
 split <;> rfl
theorem q0k6 {m : List Nat} {R : Nat -> Root} {D : List (Nat × Root)} {dst : Option Nat} (hm : ∀ d ∈ m, d < 1000) (hd : ∀ d, dst = some d -> d < 1000 /\ d ∉ m) (hk : ∀ r ∈ q0h4 D, q0ji m R r ≠ .free ∨ ∃ d, dst = some d /\ q0e0 d r) :
  q0k5 m R (apR D (q0ji m R)) = apR D R := by
 funext r
 simp only [q0k5]
 split
 ·rename_i h
  have hid : ∃ d ∈ m, q0e0 d r := by
   obtain ⟨d, hd, h⟩ := List.any_eq_true.1 h
   exact ⟨d, hd, by simpa [q0e0] using h⟩
  refine (q012 D R r fun hr => ?_).symm
  rcases hk r hr with h1 | ⟨d', h1, h2⟩
  ·exact h1 (by simp only [q0ji]; rw [if_pos h])
  ·obtain ⟨d, hdm, hdr⟩ := hid
   obtain ⟨h3, h4⟩ := hd d' h1
   have h5 := hm d hdm
   have hne : d ≠ d' := fun e => h4 (e ▸ hdm)
   rcases hdr with hdr | hdr <;> rcases h2 with h2 | h2
   ·exact hne (hdr.symm.trans h2)
   ·omega
   ·omega
   ·omega
 ·rename_i h
  refine q010 D _ _ r (.inr ?_)
  simp only [q0ji]; rw [if_neg h]
def valD (P : Program) (n : Nat) : DK -> CO -> (St -> Prop) -> St -> Prop
 | .h none [], c, K, S => coH P n c K S
 | .h (some W) [], c, K, S => coH P n c (fun S' => K S' /\ q09v W c.dst S.roots S'.roots) S
 | .h (some W) (d :: m), c, K, S => coH P n c (fun S' => K ⟨S'.env, q0k5 (d :: m) S.roots S'.roots⟩ /\ q09v W c.dst (q0ji (d :: m) S.roots) S'.roots) ⟨S.env, q0ji (d :: m) S.roots⟩
 | .h none (_ :: _), _, _, _ => False
 | .r all m, c, K, S => coV P n c S.ev ⟨S.env, if all then fun _ => .free else q0ji m S.roots⟩ (putD S c.dst K)
 | .c all m, c, K, S => coC P n all m c K S
def q0g3 (P : Program) (n : Nat) : DK -> CI -> (St -> Prop) -> St -> Prop
 | k, .o c, K, S => valD P n k c K S
 | k, .g s want d c, K, S => q0dc (S.env s) s want d (valD P n k c K) K S
def q085 (P : Program) (n : Nat) : List (DK × CI) -> (St -> Prop) -> St -> Prop
 | [], K, S => K S
 | (k, c) :: l, K, S => q0g3 P n k c (q085 P n l K) S

structure LocAt (P : Program) (n : Nat) (k : DK) (c : CI) (S : St) (x : A) (D : List (Nat × Root)) : Prop where
 keys : ∀ r ∈ q0h4 D, k.mask S.roots r ≠ .free ∨ ∃ d, c.dst = some d /\ q0e0 d r
 isR : k.isR = true -> D = []
 isC : k.isC = true -> ∀ r ∈ q0h4 D, ∃ d, c.dst = some d /\ q0e0 d r
 isH : ∀ W m, k = .h (some W) m -> ∀ r ∈ q0h4 D, (∃ d ∈ W, q0e0 d r) ∨ ∃ d, c.dst = some d /\ q0e0 d r
 run : ∀ (e : Nat -> A) (R : Nat -> Root) (Kc : St -> Prop), (∀ s ∈ c.reads, e s = S.env s) -> (∀ r, k.mask S.roots r = .free ∨ R r = k.mask S.roots r) -> (∀ r ∈ q0h4 D, k.mask S.roots r = .free -> R r = .free) →
  Kc ⟨putE e c.dst x, apR D R⟩ -> opsW P n [c] Kc ⟨e, R⟩

section
variable {P : Program} {n : Nat} {S : St}

theorem q08i {e e' : Nat -> A} {R R' : Nat -> Root} {l : List Operand} (h : ∀ s ∈ slotsOf l, e s = e' s) : ∀ y ∈ l, St.ev ⟨e, R⟩ y = St.ev ⟨e', R'⟩ y := by
 intro y hy
 cases y with
 | tmp t => exact h t (List.mem_filterMap.2 ⟨_, hy, rfl⟩)
 | _ => rfl

theorem q011 (p : Nat -> Bool) : ∀ (D : List (Nat × Root)) (R : Nat -> Root) (r : Nat), (p r = true -> apR (D.filter fun q => p q.1) R r = apR D R r) /\ (p r = false -> apR (D.filter fun q => p q.1) R r = R r) := by
 intro D
 have h2 : ∀ (R : Nat -> Root) (r : Nat), p r = false -> apR (D.filter fun q => p q.1) R r = R r := fun R r h => q012 _ _ _ fun hk => by
  obtain ⟨q, hq, rfl⟩ := List.mem_map.1 hk
  have := (List.mem_filter.1 hq).2
  rw [h] at this; cases this
 refine fun R r => ⟨?_, h2 R r⟩
 revert R
 induction D with
 | nil => intro R _; rfl
 | cons q D ih =>
   intro R h
   have ih := ih (fun R r h => q012 _ _ _ fun hk => by
    obtain ⟨q, hq, rfl⟩ := List.mem_map.1 hk
    have := (List.mem_filter.1 hq).2
    rw [h] at this; cases this)
   by_cases hq : p q.1 = true
   ·rw [List.filter_cons_of_pos (by simpa using hq)]
    exact ih (Go.Ab.upd R q.1 q.2) h
   ·rw [List.filter_cons_of_neg (by simpa using hq)]
    rw [ih R h]
    show apR D R r = apR D (Go.Ab.upd R q.1 q.2) r
    refine q010 _ _ _ r (.inr ?_)
    rw [q0x1 _ _ _ _ fun e => hq (by rw [← e]; exact h)]
theorem q078 {c : CO} {W : List Nat} {K : St -> Prop} {S : St} (hk : c.heavy = true) (h : coH P n c (fun S' => K S' /\ q09v W c.dst S.roots S'.roots) S) :
  ∃ x D, K ⟨putE S.env c.dst x, apR D S.roots⟩ /\ (∀ r ∈ q0h4 D, S.roots r ≠ .free ∨ ∃ d, c.dst = some d /\ q0e0 d r) /\ (∀ r ∈ q0h4 D, (∃ d ∈ W, q0e0 d r) ∨ ∃ d, c.dst = some d /\ q0e0 d r) ∧
    ∀ (e : Nat -> A) (R : Nat -> Root) (Kc : St -> Prop), (∀ s ∈ slotsOf c.reads, e s = S.env s) -> (∀ r, S.roots r = .free ∨ R r = S.roots r) -> (∀ r ∈ q0h4 D, S.roots r = .free -> R r = .free) →
      Kc ⟨putE e c.dst x, apR D R⟩ -> coW P n c Kc ⟨e, R⟩ := by
 obtain ⟨x, D, ⟨h1, hfr⟩, h2, h3⟩ := q077 hk h
 let p : Nat -> Bool := fun r => (W.any fun d => decide (q0e0 d r)) || (match c.dst with | some d => decide (q0e0 d r) | none => false)
 have hp : ∀ r, p r = true -> (∃ d ∈ W, q0e0 d r) ∨ ∃ d, c.dst = some d /\ q0e0 d r := fun r hr => by
  simp only [p, Bool.or_eq_true, List.any_eq_true, decide_eq_true_eq] at hr
  rcases hr with hr | hr
  ·exact .inl hr
  ·right
   split at hr
   ·rename_i d hd; exact ⟨d, hd, by simpa using hr⟩
   ·cases hr
 have hp' : ∀ r, p r = false -> (∀ d ∈ W, ¬ q0e0 d r) /\ ∀ d, c.dst = some d -> ¬ q0e0 d r := fun r hr => by
  simp only [p, Bool.or_eq_false_iff, List.any_eq_false, decide_eq_true_eq] at hr
  refine ⟨hr.1, fun d hd hdr => ?_⟩
  have := hr.2
  rw [hd] at this
  simp [hdr] at this
 have same : ∀ R : Nat -> Root, (∀ r, S.roots r = .free ∨ R r = S.roots r) -> apR (D.filter fun q => p q.1) R = apR D R := fun R hR => by
  funext r
  cases hpr : p r with
  | true => exact (q011 p D R r).1 hpr
  | false =>
    rw [(q011 p D R r).2 hpr]
    by_cases hr : r ∈ q0h4 D
    ·have hpp := hp' r hpr
     rcases h2 r hr with h4 | ⟨d, hd, hdr⟩
     ·rw [q010 D R S.roots r (.inl hr)]
      have := hfr r hpp.1 hpp.2
      rw [show apR D S.roots r = S.roots r from this]
      exact (hR r).resolve_left h4
     ·exact absurd hdr (hpp.2 d hd)
    ·exact (q012 D R r hr).symm
 refine ⟨x, D.filter fun q => p q.1, by rw [same S.roots fun r => .inr rfl]; exact h1, fun r hr => ?_, fun r hr => ?_, fun e R Kc he hR hf hKc => ?_⟩
 ·obtain ⟨q, hq, rfl⟩ := List.mem_map.1 hr
  exact h2 q.1 (List.mem_map.2 ⟨q, (List.mem_filter.1 hq).1, rfl⟩)
 ·obtain ⟨q, hq, rfl⟩ := List.mem_map.1 hr
  exact hp _ (List.mem_filter.1 hq).2
 ·rw [same R hR] at hKc
  refine h3 e R Kc (fun y hy => q08i he y hy) hR (fun r hr hfr' => ?_) hKc
  cases hpr : p r with
  | true =>
    refine hf r ?_ hfr'
    obtain ⟨q, hq, rfl⟩ := List.mem_map.1 hr
    exact List.mem_map.2 ⟨q, List.mem_filter.2 ⟨hq, hpr⟩, rfl⟩
  | false =>
    rcases h2 r hr with h4 | ⟨d, hd, hdr⟩
    ·exact absurd hfr' h4
    ·exact absurd hdr ((hp' r hpr).2 d hd)

theorem q0x9 {k : DK} {c : CO} {K : St -> Prop} (hk : (!k.isH || c.heavy) = true) (hsee : q0qw k c.dst = true) (h : valD P n k c K S) :
  ∃ x D, K ⟨putE S.env c.dst x, apR D S.roots⟩ /\ (∀ r ∈ q0h4 D, k.mask S.roots r ≠ .free ∨ ∃ d, c.dst = some d /\ q0e0 d r) /\ (k.isR = true -> D = []) /\ (k.isC = true -> ∀ r ∈ q0h4 D, ∃ d, c.dst = some d /\ q0e0 d r) /\ (∀ W m, k = .h (some W) m -> ∀ r ∈ q0h4 D, (∃ d ∈ W, q0e0 d r) ∨ ∃ d, c.dst = some d /\ q0e0 d r) ∧
    ∀ (e : Nat -> A) (R : Nat -> Root) (Kc : St -> Prop), (∀ s ∈ slotsOf c.reads, e s = S.env s) -> (∀ r, k.mask S.roots r = .free ∨ R r = k.mask S.roots r) -> (∀ r ∈ q0h4 D, k.mask S.roots r = .free -> R r = .free) →
      Kc ⟨putE e c.dst x, apR D R⟩ -> coW P n c Kc ⟨e, R⟩ := by
 cases k with
 | h w m =>
   have hk' : c.heavy = true := by simpa [DK.isH] using hk
   match w, m, hsee, h with
   | none, [], _, h =>
     obtain ⟨x, D, h1, h2, h3⟩ := q077 hk' (show coH P n c K S from h)
     exact ⟨x, D, h1, h2, fun h => by simp [DK.isR] at h, fun h => by simp [DK.isC] at h, fun W m h => (by cases h), fun e R Kc he hR hf hKc => h3 e R Kc (fun y hy => q08i he y hy) hR hf hKc⟩
   | some W, [], _, h =>
     obtain ⟨x, D, h1, h2, h3, h4⟩ := q078 hk' (show coH P n c (fun S' => K S' /\ q09v W c.dst S.roots S'.roots) S from h)
     exact ⟨x, D, h1, h2, fun h => by simp [DK.isR] at h, fun h => by simp [DK.isC] at h, fun W' m h => (by cases h; exact h3), h4⟩
   | none, _ :: _, _, h => exact (show False from h).elim
   | some W, d0 :: m, hsee, h =>
     have hsee' : (∀ d ∈ d0 :: m, d < 1000) /\ ∀ d, c.dst = some d -> d < 1000 /\ d ∉ d0 :: m := by
      simp only [q0qw, Bool.and_eq_true, List.all_eq_true, decide_eq_true_eq] at hsee
      refine ⟨hsee.2, fun d hd => ?_⟩
      have := hsee.1
      rw [hd] at this
      simp only [Bool.and_eq_true, decide_eq_true_eq, Bool.not_eq_true'] at this
      exact ⟨this.1, fun hm => by rw [List.contains_iff_mem.2 hm] at this; cases this.2⟩
     obtain ⟨x, D, h1, h2, h3, h4⟩ := q078 (S := ⟨S.env, q0ji (d0 :: m) S.roots⟩) (K := fun S' => K ⟨S'.env, q0k5 (d0 :: m) S.roots S'.roots⟩) hk' (show coH P n c (fun S' => K ⟨S'.env, q0k5 (d0 :: m) S.roots S'.roots⟩ /\ q09v W c.dst (q0ji (d0 :: m) S.roots) S'.roots) ⟨S.env, q0ji (d0 :: m) S.roots⟩ from h)
     refine ⟨x, D, ?_, h2, fun h => by simp [DK.isR] at h, fun h => by simp [DK.isC] at h, fun W' m h => (by cases h; exact h3), h4⟩
     simp only [] at h1
     rw [q0k6 hsee'.1 hsee'.2 h2] at h1
     exact h1
 | r all m =>
   have h : coV P n c S.ev ⟨S.env, if all then fun _ => .free else q0ji m S.roots⟩ (putD S c.dst K) := h
   obtain ⟨x, hK, hall⟩ := q07f h
   refine ⟨x, [], hK, fun r hr => by simp [q0h4] at hr, fun _ => rfl, fun h => by simp [DK.isC] at h, fun W m h => (by cases h), fun e R Kc he hR hf hKc => ?_⟩
   cases hd : c.dst with
   | none => cases c <;> simp only [CO.dst, reduceCtorEq] at hd <;> simp only [coV] at h <;> (try subst hd) <;> exact h.elim
   | some d =>
     refine q07h hd ?_
     refine q07e (ρ := S.ev) (fun y hy => q08i (R := R) (R' := S.roots) he y hy) ?_
     refine q07g (e := S.env) (M := if all then fun _ => .free else q0ji m S.roots) hR (hall _ ?_)
     rw [hd] at hKc; exact hKc
 | c all m =>
   obtain ⟨d, x, D, h1, h2, h3, h4, h5⟩ := q06z (h : coC P n all m c K S)
   exact ⟨x, D, h3, h4, fun h => by simp [DK.isR] at h, fun _ r hr => ⟨d, h1, h2 r hr⟩, fun W m h => (by cases h), fun e R Kc he hR hf hKc => h5 e R Kc (fun y hy => q08i he y hy) hR hf hKc⟩

theorem q0g5 {k : DK} {c : CI} {K : St -> Prop} (hok : q0g6 (k, c) = true) (h : q0g3 P n k c K S) :
  ∃ x D, K ⟨putE S.env c.dst x, apR D S.roots⟩ /\ LocAt P n k c S x D := by
 cases c with
 | o c =>
   simp only [q0g6, Bool.and_eq_true] at hok
   obtain ⟨x, D, h1, h2, h3, h4, h5, h6⟩ := q0x9 hok.1 hok.2 h
   exact ⟨x, D, h1, h2, h3, h4, h5, h6⟩
 | g s want d c =>
   simp only [q0g6, Bool.and_eq_true, beq_iff_eq] at hok
   obtain ⟨⟨hk, hsee⟩, hd⟩ := hok
   simp only [q0g3] at h
   unfold q0dc at h
   split at h
   ·rename_i b hb
    by_cases hbw : b = want
    ·have h1 := h.1 hbw
     rw [q08g _ _ _ (by rw [hb, hbw])] at h1
     obtain ⟨x, D, h2, h3, h4, h5, h7, h6⟩ := q0x9 hk hsee h1
     refine ⟨x, D, by simp only [CI.dst, hd]; exact h2, by simp only [CI.dst, hd]; exact h3, h4, by simp only [CI.dst, hd]; exact h5, by simp only [CI.dst, hd]; exact h7, fun e R Kc he hR hf hKc => ?_⟩
     have hes : e s = .t (.v (.bool b)) := (he s (by simp [CI.reads])).trans hb
     simp only [opsW]
     unfold q0dc
     simp only [hes]
     refine ⟨fun _ => ?_, fun e' => absurd (hbw.symm.trans e') (by cases want <;> simp)⟩
     rw [q08g _ _ _ (by rw [hes, hbw])]
     refine h6 e R _ (fun s' hs' => he s' (by simp only [CI.reads, List.mem_cons]; exact .inr hs')) hR hf ?_
     simp only [CI.dst, hd] at hKc
     exact hKc
    ·have e' : b = !want := by cases b <;> cases want <;> simp_all
     have h1 := h.2 e'
     rw [q08g _ _ _ (by rw [hb, e'])] at h1
     refine ⟨q0ro, [], by cases d <;> exact h1, fun r hr => by simp [q0h4] at hr, fun _ => rfl, fun _ r hr => by simp [q0h4] at hr, fun _ _ _ r hr => by simp [q0h4] at hr, fun e R Kc he hR hf hKc => ?_⟩
     have hes : e s = .t (.v (.bool b)) := (he s (by simp [CI.reads])).trans hb
     simp only [opsW]
     unfold q0dc
     simp only [hes]
     refine ⟨fun h => absurd h hbw, fun _ => ?_⟩
     rw [q08g _ _ _ (by rw [hes, e'])]
     cases d <;> exact hKc
   ·rename_i xs hb
    refine ⟨q0ro, [], by cases d <;> exact h, fun r hr => by simp [q0h4] at hr, fun _ => rfl, fun _ r hr => by simp [q0h4] at hr, fun _ _ _ r hr => by simp [q0h4] at hr, fun e R Kc he hR hf hKc => ?_⟩
    have hes : e s = .t (.v (.tuple xs)) := (he s (by simp [CI.reads])).trans hb
    simp only [opsW]
    unfold q0dc
    simp only [hes]
    cases d <;> exact hKc
   ·exact h.elim

def q08b (l : List (DK × CI)) (i : Nat) : Option Nat := (l[i]?).bind fun p => p.2.dst

def q08c (l : List (DK × CI)) (v : Nat -> A) (e : Nat -> A) : Nat -> Nat -> A
 | 0 => e
 | i + 1 => putE (q08c l v e i) (q08b l i) (v i)

theorem q08d {p : DK × CI} {l : List (DK × CI)} {v : Nat -> A} {e : Nat -> A} : ∀ i, q08c (p :: l) v e (i + 1) = q08c l (fun i => v (i + 1)) (putE e p.2.dst (v 0)) i
 | 0 => rfl
 | i + 1 => by
   have ih := q08d (p := p) (l := l) (v := v) (e := e) i
   show putE (q08c (p :: l) v e (i + 1)) (q08b (p :: l) (i + 1)) (v (i + 1)) = _
   rw [ih]; rfl

def rtD (Dl : Nat -> List (Nat × Root)) (R0 : Nat -> Root) (D : Nat -> Bool) : Nat -> Nat -> Root
 | 0 => R0
 | k + 1 => if D k then apR (Dl k) (rtD Dl R0 D k) else rtD Dl R0 D k
def rtA (Dl : Nat -> List (Nat × Root)) (R0 : Nat -> Root) : Nat -> Nat -> Root := rtD Dl R0 fun _ => true
theorem q0qg (Dl : Nat -> List (Nat × Root)) (R0 : Nat -> Root) (k : Nat) : rtA Dl R0 (k + 1) = apR (Dl k) (rtA Dl R0 k) := rfl
theorem q0qf (D0 : List (Nat × Root)) (Dl : Nat -> List (Nat × Root)) (R0 : Nat -> Root) : ∀ i, rtA (fun i => match i with | 0 => D0 | i + 1 => Dl i) R0 (i + 1) = rtA Dl (apR D0 R0) i
 | 0 => rfl
 | i + 1 => by rw [q0qg, q0qf D0 Dl R0 i]; rfl

theorem q087 {K : St -> Prop} : ∀ (l : List (DK × CI)) (S : St), (∀ p ∈ l, q0g6 p = true) -> q085 P n l K S -> ∃ (v : Nat -> A) (Dl : Nat -> List (Nat × Root)),
  (∀ i (h : i < l.length), LocAt P n l[i].1 l[i].2 ⟨q08c l v S.env i, rtA Dl S.roots i⟩ (v i) (Dl i)) /\ K ⟨q08c l v S.env l.length, rtA Dl S.roots l.length⟩
 | [], S, _, h => ⟨fun _ => .t .any, fun _ => [], fun i h => absurd h (by simp), h⟩
 | (k, c) :: l, S, hok, h => by
   obtain ⟨x, D0, h2, h3⟩ := q0g5 (hok (k, c) (by simp)) (h : q0g3 P n k c (q085 P n l K) S)
   obtain ⟨v, Dl, h5, h6⟩ := q087 l _ (fun p hp => hok p (List.mem_cons_of_mem _ hp)) h2
   refine ⟨fun i => match i with | 0 => x | i + 1 => v i, fun i => match i with | 0 => D0 | i + 1 => Dl i, fun i hi => ?_, ?_⟩
   ·cases i with
    | zero => exact h3
    | succ i =>
      have hi' : i < l.length := by simpa using hi
      rw [q08d, q0qf]
      exact h5 i hi'
   ·simp only [List.length_cons]
    rw [q08d, q0qf]
    exact h6

-- the order
def kAt (l : List (DK × CI)) (i : Nat) : DK := ((l[i]?).map (·.1)).getD kE
def rdAt (l : List (DK × CI)) (i : Nat) : List Nat := ((l[i]?).map fun p => p.2.reads).getD []

def hidB (m : List Nat) (d : Option Nat) (w : Option (List Nat)) : Bool := match w with | some W => W.all m.contains && (match d with | some d => m.contains d | none => true) | none => false
def q0nm (l : List (DK × CI)) (i j : Nat) : Bool :=
 match kAt l i, kAt l j with
 | .r _ _, .r _ _ => true
 | .r _ _, .c _ _ => true
 | .r all m, .h w _ => all || hidB m (q08b l j) w
 | .c _ _, .r all m => all || (match q08b l i with | some d => m.contains d | none => true)
 | .c _ _, .c all m => all || (match q08b l i with | some d => m.contains d | none => true)
 | .c all m, .h w m' => (match q08b l i with | some d => m'.contains d | none => true) && (all || hidB m (q08b l j) w)
 | .h w _, .r all m => all || hidB m (q08b l i) w
 | .h w _, .c all m => all || hidB m (q08b l i) w
 | .h w m, .h w' m' => hidB m (q08b l j) w' && hidB m' (q08b l i) w

def AtD (l : List (DK × CI)) (v : Nat -> A) (Dl : Nat -> List (Nat × Root)) (R0 : Nat -> Root) (e0 : Nat -> A) (D : Nat -> Bool) (S : St) : Prop :=
 (∀ s, (∀ j, j < l.length -> D j = true -> q08b l j = some s -> S.env s = v j) /\ ((∀ j, j < l.length -> D j = true -> q08b l j ≠ some s) -> S.env s = e0 s)) /\ S.roots = rtD Dl R0 D l.length

def Ord (l : List (DK × CI)) (D : Nat -> Bool) (i : Nat) : Prop :=
 ∀ j, j < l.length -> j ≠ i -> (j < i /\ D j = true) ∨ (i < j /\ ¬ D j = true) ∨ ((∀ s ∈ rdAt l i, q08b l j ≠ some s) /\ (j < i -> q0nm l j i = true) /\ (i < j -> q0nm l i j = true))

theorem q08e {l : List (DK × CI)} {v : Nat -> A} {e0 : Nat -> A} (hd : ∀ i j, i < l.length -> j < l.length -> i ≠ j -> ∀ s, q08b l i = some s -> q08b l j ≠ some s) (s : Nat) : ∀ i, i <= l.length →
  (∀ j, j < i -> q08b l j = some s -> q08c l v e0 i s = v j) /\ ((∀ j, j < i -> q08b l j ≠ some s) -> q08c l v e0 i s = e0 s)
 | 0, _ => ⟨fun j h => absurd h (by omega), fun _ => rfl⟩
 | i + 1, hi => by
   obtain ⟨h1, h2⟩ := q08e (v := v) (e0 := e0) hd s i (by omega)
   simp only [q08c]
   by_cases hs : q08b l i = some s
   ·have hself : putE (q08c l v e0 i) (q08b l i) (v i) s = v i := by rw [hs]; simp [putE, q0x2]
    refine ⟨fun j hj hjs => ?_, fun h => absurd hs (h i (by omega))⟩
    by_cases hji : j = i
    ·subst hji; exact hself
    ·exact absurd hs (hd j i (by omega) (by omega) hji s hjs)
   ·have hoth : putE (q08c l v e0 i) (q08b l i) (v i) s = q08c l v e0 i s := by
     cases hx : q08b l i with
     | none => rfl
     | some d => exact q0x1 _ _ _ _ fun e => hs (by rw [hx, e])
    rw [hoth]
    refine ⟨fun j hj hjs => ?_, fun h => h2 fun j hj => h j (by omega)⟩
    by_cases hji : j = i
    ·subst hji; exact absurd hjs hs
    ·exact h1 j (by omega) hjs

structure Chg (l : List (DK × CI)) (Dl : Nat -> List (Nat × Root)) (R0 : Nat -> Root) : Prop where
 keys : ∀ i, i < l.length -> ∀ r ∈ q0h4 (Dl i), (kAt l i).mask (rtA Dl R0 i) r ≠ .free ∨ ∃ d, q08b l i = some d /\ q0e0 d r
 isR : ∀ i, i < l.length -> (kAt l i).isR = true -> Dl i = []
 isC : ∀ i, i < l.length -> (kAt l i).isC = true -> ∀ r ∈ q0h4 (Dl i), ∃ d, q08b l i = some d /\ q0e0 d r
 isH : ∀ i, i < l.length -> ∀ W m, kAt l i = .h (some W) m -> ∀ r ∈ q0h4 (Dl i), (∃ d ∈ W, q0e0 d r) ∨ ∃ d, q08b l i = some d /\ q0e0 d r
 dst : ∀ i j, i < l.length -> j < l.length -> i ≠ j -> ∀ s, q08b l i = some s -> q08b l j ≠ some s
 small : ∀ i, i < l.length -> (kAt l i).isR = false -> ∀ d, q08b l i = some d -> d < 1000
 start : ∀ i, i < l.length -> (kAt l i).isC = true -> ∀ d, q08b l i = some d -> ∀ r, q0e0 d r -> R0 r = .free
 see : ∀ i, i < l.length -> q0qw (kAt l i) (q08b l i) = true

theorem q0jo {w : Option (List Nat)} {m : List Nat} {d : Nat} (h : q0qw (.h w m) (some d) = true) (R : Nat -> Root) {r : Nat} (hr : q0e0 d r) : q0ji m R r = R r := by
 cases m with
 | nil => rfl
 | cons d0 m =>
   cases w with
   | none => exact (by cases h)
   | some W =>
     simp only [q0qw, Bool.and_eq_true, List.all_eq_true, decide_eq_true_eq, Bool.not_eq_true'] at h
     obtain ⟨⟨h1, h2⟩, h3⟩ := h
     unfold q0ji
     rw [if_neg]
     intro hc
     obtain ⟨k, hk, hkr⟩ := List.any_eq_true.1 hc
     have hk1 := h3 k hk
     have hne : k ≠ d := fun e => by rw [e] at hk; rw [List.contains_iff_mem.2 hk] at h2; cases h2
     simp only [Bool.or_eq_true, decide_eq_true_eq] at hkr
     rcases hr with hr | hr <;> rcases hkr with hkr | hkr <;> omega

theorem q0jq {k : DK} {R : Nat -> Root} {r : Nat} (h : k.mask R r ≠ .free) : k.mask R r = R r /\ R r ≠ .free := by
 cases k with
 | r all m =>
   cases all
   ·have := (q0jn (h : q0ji m R r ≠ .free)).1
    exact ⟨this, by rw [← this]; exact h⟩
   ·exact absurd rfl h
 | c all m =>
   cases all
   ·have := (q0jn (h : q0ji m R r ≠ .free)).1
    exact ⟨this, by rw [← this]; exact h⟩
   ·exact absurd rfl h
 | h w m =>
   have := (q0jn (h : q0ji m R r ≠ .free)).1
   exact ⟨this, by rw [← this]; exact h⟩

section
variable {l : List (DK × CI)} {Dl : Nat -> List (Nat × Root)} {R0 : Nat -> Root}

theorem Chg.apart (F : Chg l Dl R0) {i j d d' r : Nat} (hi : i < l.length) (hj : j < l.length) (hij : i ≠ j) (ki : (kAt l i).isR = false) (kj : (kAt l j).isR = false) (h : q08b l i = some d) (h' : q08b l j = some d') (hr : q0e0 d r) (hr' : q0e0 d' r) : False := by
 have h1 := F.small i hi ki d h
 have h2 := F.small j hj kj d' h'
 have hne : d ≠ d' := fun e => F.dst i j hi hj hij d h (by rw [h', e])
 rcases hr with rfl | hr <;> rcases hr' with rfl | hr'
 ·exact hne rfl
 ·omega
 ·omega
 ·omega

theorem Chg.isC_not (h : (k : DK) -> True) {k : DK} (hk : k.isC = true) : k.isR = false := by cases k <;> simp [DK.isC, DK.isR] at hk ⊢

theorem Chg.fresh (F : Chg l Dl R0) {j d : Nat} (hj : j < l.length) (hc : (kAt l j).isC = true) (hd : q08b l j = some d) {r : Nat} (hr : q0e0 d r) : ∀ i, i <= j -> rtA Dl R0 i r = .free
 | 0, _ => F.start j hj hc d hd r hr
 | i + 1, hi => by
   have ih := F.fresh hj hc hd hr i (by omega)
   rw [q0qg, q012 _ _ _ fun hk => ?_]
   ·exact ih
   ·rcases F.keys i (by omega) r hk with h | ⟨d', h1, h2⟩
    ·exact (q0jq h).2 ih
    ·cases hr' : (kAt l i).isR with
     | true => rw [F.isR i (by omega) hr'] at hk; simp [q0h4] at hk
     | false => exact F.apart (by omega) hj (by omega) hr' (Chg.isC_not (fun _ => trivial) hc) h1 hd h2 hr

theorem Chg.hid (F : Chg l Dl R0) {k : Nat} (hk : k < l.length) {w : Option (List Nat)} {mk : List Nat} (hkk : kAt l k = .h w mk) {m' : List Nat} {R : Nat -> Root} {r : Nat} (hkey : r ∈ q0h4 (Dl k)) (hne : q0ji m' R r ≠ .free) (hp : hidB m' (q08b l k) w = true) : False := by
 cases w with
 | none => simp [hidB] at hp
 | some W =>
   simp only [hidB, Bool.and_eq_true, List.all_eq_true] at hp
   have hm := (q0jn hne).2
   rcases F.isH k hk W mk hkk r hkey with ⟨d, hd, hdr⟩ | ⟨d, hd, hdr⟩
   ·exact hm d (by simpa using hp.1 d hd) hdr
   ·have := hp.2
    rw [hd] at this
    exact hm d (by simpa using this) hdr
theorem q0ds {m : List Nat} {d : Nat} {w : Option (List Nat)} (h : hidB m (some d) w = true) : d ∈ m := by
 cases w with
 | none => simp [hidB] at h
 | some W =>
   simp only [hidB, Bool.and_eq_true] at h
   simpa using h.2
theorem Chg.same (F : Chg l Dl R0) {D : Nat -> Bool} {i : Nat} (hi : i < l.length) (hDi : ¬ D i = true) (ho : Ord l D i) {r : Nat} (hne : (kAt l i).mask (rtA Dl R0 i) r ≠ .free) : rtD Dl R0 D l.length r = rtA Dl R0 i r := by
 have hri := (q0jq hne).2
 have low : ∀ k, k <= i -> rtD Dl R0 D k r = rtA Dl R0 k r := by
  intro k
  induction k with
  | zero => intro _; rfl
  | succ k ih =>
    intro hk
    have ih := ih (by omega)
    rw [q0qg]
    show (if D k then apR (Dl k) (rtD Dl R0 D k) else rtD Dl R0 D k) r = _
    by_cases hD : D k = true
    ·rw [if_pos hD]; exact q010 _ _ _ r (.inr ih)
    ·rw [if_neg hD, ih, q012 _ _ _ fun hkey => ?_]
     rcases ho k (by omega) (by omega) with h | h | h
     ·exact hD h.2
     ·omega
     ·have hp := h.2.1 (by omega)
      unfold q0nm at hp
      cases hkk : kAt l k with
      | r a m => rw [F.isR k (by omega) (by rw [hkk]; rfl)] at hkey; simp [q0h4] at hkey
      | c a m =>
        obtain ⟨d, hd, hdr⟩ := F.isC k (by omega) (by rw [hkk]; rfl) r hkey
        rw [hkk, hd] at hp
        cases hki : kAt l i with
        | r a' m' =>
          rw [hki] at hp hne
          cases a' with
          | true => exact hne rfl
          | false =>
            have : d ∈ m' := by simpa using hp
            exact (q0jn (hne : q0ji m' _ r ≠ .free)).2 d this hdr
        | c a' m' =>
          rw [hki] at hp hne
          cases a' with
          | true => exact hne rfl
          | false =>
            have : d ∈ m' := by simpa using hp
            exact (q0jn (hne : q0ji m' _ r ≠ .free)).2 d this hdr
        | h w' m' =>
          rw [hki] at hp hne
          simp only [Bool.and_eq_true] at hp
          exact (q0jn (hne : q0ji m' _ r ≠ .free)).2 d (by simpa using hp.1) hdr
      | h w mk =>
        rw [hkk] at hp
        cases hki : kAt l i with
        | r a' m' =>
          rw [hki] at hp hne
          cases a' with
          | true => exact hne rfl
          | false => exact F.hid (by omega) hkk hkey (hne : q0ji m' _ r ≠ .free) (by simpa using hp)
        | c a' m' =>
          rw [hki] at hp hne
          cases a' with
          | true => exact hne rfl
          | false => exact F.hid (by omega) hkk hkey (hne : q0ji m' _ r ≠ .free) (by simpa using hp)
        | h w' m' =>
          rw [hki] at hp hne
          simp only [Bool.and_eq_true] at hp
          exact F.hid (by omega) hkk hkey (hne : q0ji m' _ r ≠ .free) hp.2
 have high : ∀ c, i + c <= l.length -> rtD Dl R0 D (i + c) r = rtD Dl R0 D i r := by
  intro c
  induction c with
  | zero => intro _; rfl
  | succ c ih =>
    intro hc
    have ih := ih (by omega)
    show (if D (i + c) then apR (Dl (i + c)) (rtD Dl R0 D (i + c)) else rtD Dl R0 D (i + c)) r = _
    by_cases hD : D (i + c) = true
    ·rw [if_pos hD, q012 _ _ _ fun hkey => ?_]
     ·exact ih
     ·have hne' : i + c ≠ i := fun e => hDi (by rw [← e]; exact hD)
      rcases ho (i + c) (by omega) hne' with h | h | h
      ·omega
      ·exact h.2 hD
      ·have hp := h.2.2 (by omega)
       unfold q0nm at hp
       cases hkk : kAt l (i + c) with
       | r a m => rw [F.isR (i + c) (by omega) (by rw [hkk]; rfl)] at hkey; simp [q0h4] at hkey
       | c a m =>
         obtain ⟨d, hd, hdr⟩ := F.isC (i + c) (by omega) (by rw [hkk]; rfl) r hkey
         exact hri (F.fresh (by omega) (by rw [hkk]; rfl) hd hdr i (by omega))
       | h w mk =>
         rw [hkk] at hp
         cases hki : kAt l i with
         | r a' m' =>
           rw [hki] at hp hne
           cases a' with
           | true => exact hne rfl
           | false => exact F.hid (by omega) hkk hkey (hne : q0ji m' _ r ≠ .free) (by simpa using hp)
         | c a' m' =>
           rw [hki] at hp hne
           simp only [Bool.and_eq_true] at hp
           cases a' with
           | true => exact hne rfl
           | false => exact F.hid (by omega) hkk hkey (hne : q0ji m' _ r ≠ .free) (by simpa using hp.2)
         | h w' m' =>
           rw [hki] at hp hne
           simp only [Bool.and_eq_true] at hp
           exact F.hid (by omega) hkk hkey (hne : q0ji m' _ r ≠ .free) hp.1
    ·rw [if_neg hD]; exact ih
 have := high (l.length - i) (by omega)
 rw [show i + (l.length - i) = l.length by omega] at this
 rw [this, low i (Nat.le_refl _)]

theorem Chg.free (F : Chg l Dl R0) {D : Nat -> Bool} {i : Nat} (hi : i < l.length) (hDi : ¬ D i = true) (ho : Ord l D i) {r : Nat} (hk : r ∈ q0h4 (Dl i)) (hf : (kAt l i).mask (rtA Dl R0 i) r = .free) : rtD Dl R0 D l.length r = .free := by
 obtain ⟨d, hd, hdr⟩ := (F.keys i hi r hk).resolve_left (fun h => h hf)
 have nR : (kAt l i).isR = false := by
  cases h : (kAt l i).isR with
  | true => rw [F.isR i hi h] at hk; simp [q0h4] at hk
  | false => rfl
 have base : rtA Dl R0 0 r = .free ∨ True := .inr trivial
 -- no other item that has run touches r
 have untouched : ∀ k, k < l.length -> D k = true -> r ∈ q0h4 (Dl k) -> k < i /\ (kAt l i).isC = false := by
  intro k hkl hD hkey
  have hki : k ≠ i := fun e => hDi (e ▸ hD)
  have nRk : (kAt l k).isR = false := by
   cases h : (kAt l k).isR with
   | true => rw [F.isR k hkl h] at hkey; simp [q0h4] at hkey
   | false => rfl
  rcases F.keys k hkl r hkey with h | ⟨d', h1, h2⟩
  ·have hrk := (q0jq h).2
   rcases Nat.lt_or_ge k i with hlt | hge
   ·refine ⟨hlt, ?_⟩
    cases hc : (kAt l i).isC with
    | false => rfl
    | true => exact absurd (F.fresh hi hc hd hdr k (by omega)) hrk
   ·rcases ho k hkl hki with h' | h' | h'
    ·omega
    ·exact absurd hD h'.2
    ·have hp := h'.2.2 (by omega)
     unfold q0nm at hp
     cases hkk : kAt l k with
     | r a m => rw [hkk] at nRk; cases nRk
     | c a m =>
       obtain ⟨d', h1, h2⟩ := F.isC k hkl (by rw [hkk]; rfl) r hkey
       exact (F.apart hi hkl (Ne.symm hki) nR nRk hd h1 hdr h2).elim
     | h w mk =>
       rw [hkk] at hp h
       have hmk := (q0jn (h : q0ji mk _ r ≠ .free)).2
       cases hki' : kAt l i with
       | r a' m' => rw [hki'] at nR; cases nR
       | c a' m' =>
         rw [hki', hd] at hp
         simp only [Bool.and_eq_true] at hp
         exact (hmk d (by simpa using hp.1) hdr).elim
       | h w' m' =>
         rw [hki', hd] at hp
         simp only [Bool.and_eq_true] at hp
         exact (hmk d (q0ds hp.2) hdr).elim
  ·exact (F.apart hi hkl (Ne.symm hki) nR nRk hd h1 hdr h2).elim
 cases hc : (kAt l i).isC with
 | true =>
   have : ∀ k, k <= l.length -> rtD Dl R0 D k r = .free := by
    intro k
    induction k with
    | zero => intro _; exact F.start i hi hc d hd r hdr
    | succ k ih =>
      intro hkl
      show (if D k then apR (Dl k) (rtD Dl R0 D k) else rtD Dl R0 D k) r = _
      by_cases hD : D k = true
      ·rw [if_pos hD, q012 _ _ _ fun hkey => by have := (untouched k (by omega) hD hkey).2; rw [hc] at this; cases this]
       exact ih (by omega)
      ·rw [if_neg hD]; exact ih (by omega)
   exact this _ (Nat.le_refl _)
 | false =>
   obtain ⟨w0, m0, hh⟩ : ∃ w m, kAt l i = .h w m := by
    cases h : kAt l i with
    | r a m => rw [h] at nR; cases nR
    | c a m => rw [h] at hc; cases hc
    | h w m => exact ⟨w, m, rfl⟩
   rw [hh] at hf
   have hf : rtA Dl R0 i r = .free := by
    have hs := F.see i hi
    rw [hh, hd] at hs
    rw [← q0jo hs (rtA Dl R0 i) hdr]; exact hf
   have low : ∀ k, k <= i -> rtD Dl R0 D k r = rtA Dl R0 k r := by
    intro k
    induction k with
    | zero => intro _; rfl
    | succ k ih =>
      intro hk'
      have ih := ih (by omega)
      rw [q0qg]
      show (if D k then apR (Dl k) (rtD Dl R0 D k) else rtD Dl R0 D k) r = _
      by_cases hD : D k = true
      ·rw [if_pos hD]; exact q010 _ _ _ r (.inr ih)
      ·rw [if_neg hD, ih, q012 _ _ _ fun hkey => ?_]
       rcases ho k (by omega) (by omega) with h | h | h
       ·exact hD h.2
       ·omega
       ·have hp := h.2.1 (by omega)
        unfold q0nm at hp
        rw [hh] at hp
        cases hkk : kAt l k with
        | r a m => rw [F.isR k (by omega) (by rw [hkk]; rfl)] at hkey; simp [q0h4] at hkey
        | c a m =>
          obtain ⟨d', h1, h2⟩ := F.isC k (by omega) (by rw [hkk]; rfl) r hkey
          exact (F.apart hi (by omega) (by omega) nR (by rw [hkk]; rfl) hd h1 hdr h2).elim
        | h w mk =>
          rw [hkk, hd] at hp
          simp only [Bool.and_eq_true] at hp
          rcases F.keys k (by omega) r hkey with h1 | ⟨d', h1, h2⟩
          ·rw [hkk] at h1
           exact (q0jn (h1 : q0ji mk _ r ≠ .free)).2 d (q0ds hp.1) hdr
          ·exact F.apart hi (by omega) (by omega) nR (by rw [hkk]; rfl) hd h1 hdr h2
   have high : ∀ c, i + c <= l.length -> rtD Dl R0 D (i + c) r = rtD Dl R0 D i r := by
    intro c
    induction c with
    | zero => intro _; rfl
    | succ c ih =>
      intro hc'
      have ih := ih (by omega)
      show (if D (i + c) then apR (Dl (i + c)) (rtD Dl R0 D (i + c)) else rtD Dl R0 D (i + c)) r = _
      by_cases hD : D (i + c) = true
      ·rw [if_pos hD, q012 _ _ _ fun hkey => by have := (untouched (i + c) (by omega) hD hkey).1; omega]
       exact ih
      ·rw [if_neg hD]; exact ih
   have := high (l.length - i) (by omega)
   rw [show i + (l.length - i) = l.length by omega] at this
   rw [this, low i (Nat.le_refl _)]
   exact hf

theorem Chg.next (F : Chg l Dl R0) {D : Nat -> Bool} {i : Nat} (hi : i < l.length) (hDi : ¬ D i = true) (ho : Ord l D i) : apR (Dl i) (rtD Dl R0 D l.length) = rtD Dl R0 (fun j => D j || j == i) l.length := by
 funext r
 by_cases hr : r ∈ q0h4 (Dl i)
 ·have nR : (kAt l i).isR = false := by
   cases h : (kAt l i).isR with
   | true => rw [F.isR i hi h] at hr; simp [q0h4] at hr
   | false => rfl
  have high : ∀ c, i + 1 + c <= l.length -> rtD Dl R0 (fun j => D j || j == i) (i + 1 + c) r = apR (Dl i) (rtD Dl R0 D l.length) r := by
   intro c
   induction c with
   | zero =>
     intro _
     show (if (D i || i == i) = true then apR (Dl i) _ else _) r = _
     rw [if_pos (by simp)]
     exact q010 _ _ _ r (.inl hr)
   | succ c ih =>
     intro hc
     have ih := ih (by omega)
     show (if (D (i + 1 + c) || (i + 1 + c) == i) = true then apR (Dl (i + 1 + c)) (rtD Dl R0 (fun j => D j || j == i) (i + 1 + c)) else rtD Dl R0 (fun j => D j || j == i) (i + 1 + c)) r = _
     have e : ((i + 1 + c) == i) = false := by simp; omega
     rw [e, Bool.or_false]
     by_cases hD : D (i + 1 + c) = true
     ·rw [if_pos hD, q012 _ _ _ fun hkey => ?_]
      ·exact ih
      ·rcases ho (i + 1 + c) (by omega) (by omega) with h | h | h
       ·omega
       ·exact h.2 hD
       ·have hp := h.2.2 (by omega)
        unfold q0nm at hp
        cases hkk : kAt l (i + 1 + c) with
        | r a m => rw [F.isR (i + 1 + c) (by omega) (by rw [hkk]; rfl)] at hkey; simp [q0h4] at hkey
        | c a m =>
          obtain ⟨d, hd, hdr⟩ := F.isC (i + 1 + c) (by omega) (by rw [hkk]; rfl) r hkey
          rcases F.keys i hi r hr with h' | ⟨d', h1, h2⟩
          ·exact (q0jq h').2 (F.fresh (by omega) (by rw [hkk]; rfl) hd hdr i (by omega))
          ·exact F.apart hi (show i + 1 + c < l.length by omega) (by omega) nR (by rw [hkk]; rfl) h1 hd h2 hdr
        | h w mk =>
          rw [hkk] at hp
          rcases F.keys (i + 1 + c) (by omega) r hkey with h1 | ⟨d', h1, h2⟩
          ·rw [hkk] at h1
           have hmk := (q0jn (h1 : q0ji mk _ r ≠ .free)).2
           cases hki : kAt l i with
           | r a' m' => rw [hki] at nR; cases nR
           | c a' m' =>
             obtain ⟨d, hd, hdr⟩ := F.isC i hi (by rw [hki]; rfl) r hr
             rw [hki, hd] at hp
             simp only [Bool.and_eq_true] at hp
             exact hmk d (by simpa using hp.1) hdr
           | h w' m' =>
             rw [hki] at hp
             simp only [Bool.and_eq_true] at hp
             exact F.hid hi hki hr (h1 : q0ji mk _ r ≠ .free) hp.2
          ·rcases F.keys i hi r hr with h3 | ⟨d, h3, h4⟩
           ·cases hki : kAt l i with
            | r a' m' => rw [hki] at nR; cases nR
            | c a' m' =>
              obtain ⟨d, hd, hdr⟩ := F.isC i hi (by rw [hki]; rfl) r hr
              exact F.apart hi (show i + 1 + c < l.length by omega) (by omega) nR (by rw [hkk]; rfl) hd h1 hdr h2
            | h w' m' =>
              rw [hki, h1] at hp
              rw [hki] at h3
              simp only [Bool.and_eq_true] at hp
              exact (q0jn (h3 : q0ji m' _ r ≠ .free)).2 d' (q0ds hp.1) h2
           ·exact F.apart hi (show i + 1 + c < l.length by omega) (by omega) nR (by rw [hkk]; rfl) h3 h1 h4 h2
     ·rw [if_neg hD]; exact ih
  have := high (l.length - (i + 1)) (by omega)
  rw [show i + 1 + (l.length - (i + 1)) = l.length by omega] at this
  exact this.symm
 ·rw [q012 _ _ _ hr]
  have : ∀ k, rtD Dl R0 (fun j => D j || j == i) k r = rtD Dl R0 D k r := by
   intro k
   induction k with
   | zero => rfl
   | succ k ih =>
     show (if (D k || k == i) = true then apR (Dl k) (rtD Dl R0 (fun j => D j || j == i) k) else rtD Dl R0 (fun j => D j || j == i) k) r = (if D k then apR (Dl k) (rtD Dl R0 D k) else rtD Dl R0 D k) r
     by_cases hk : k = i
     ·subst hk
      rw [if_pos (by simp), if_neg hDi, q012 _ _ _ hr, ih]
     ·have e : (k == i) = false := by simp [hk]
      rw [e, Bool.or_false]
      by_cases hD : D k = true
      ·rw [if_pos hD, if_pos hD]; exact q010 _ _ _ r (.inr ih)
      ·rw [if_neg hD, if_neg hD, ih]
  rw [this]

theorem AtD.step {v : Nat -> A} {e0 : Nat -> A} {D : Nat -> Bool} (F : Chg l Dl R0) {i : Nat} (hi : i < l.length) (hself : ∀ s ∈ rdAt l i, q08b l i ≠ some s) (hDi : ¬ D i = true) (ho : Ord l D i) (hAt : AtD l v Dl R0 e0 D S) :
  (∀ s ∈ rdAt l i, S.env s = q08c l v e0 i s) /\ (∀ r, (kAt l i).mask (rtA Dl R0 i) r = .free ∨ S.roots r = (kAt l i).mask (rtA Dl R0 i) r) /\ (∀ r ∈ q0h4 (Dl i), (kAt l i).mask (rtA Dl R0 i) r = .free -> S.roots r = .free) ∧
   AtD l v Dl R0 e0 (fun j => D j || j == i) ⟨putE S.env (q08b l i) (v i), apR (Dl i) S.roots⟩ := by
 have hd := F.dst
 obtain ⟨hE, hR⟩ := hAt
 refine ⟨fun s hs => ?_, fun r => ?_, fun r hr hf => ?_, fun s => ?_, ?_⟩
 ·obtain ⟨ha, hb⟩ := q08e (v := v) (e0 := e0) hd s i (by omega)
  obtain ⟨hc, hdd⟩ := hE s
  by_cases hex : ∃ j, j < l.length /\ q08b l j = some s
  ·obtain ⟨j, hj, hjs⟩ := hex
   have hji : j ≠ i := fun e => hself s hs (e ▸ hjs)
   rcases ho j hj hji with h | h | h
   ·rw [hc j hj h.2 hjs, ha j h.1 hjs]
   ·rw [hdd fun j' hj' hD' hs' => ?_, hb fun j' hj' hs' => ?_]
    ·by_cases e : j' = j
     ·rw [e] at hj'; omega
     ·exact hd j' j (by omega) hj e s hs' hjs
    ·by_cases e : j' = j
     ·rw [e] at hD'; exact h.2 hD'
     ·exact hd j' j (by omega) hj e s hs' hjs
   ·exact absurd hjs (h.1 s hs)
  ·rw [hdd fun j hj _ hjs => hex ⟨j, hj, hjs⟩, hb fun j hj hjs => hex ⟨j, by omega, hjs⟩]
 ·by_cases hne : (kAt l i).mask (rtA Dl R0 i) r = .free
  ·exact .inl hne
  ·right
   rw [hR, F.same hi hDi ho hne, (q0jq hne).1]
 ·rw [hR]; exact F.free hi hDi ho hr hf
 ·obtain ⟨hc, hdd⟩ := hE s
  by_cases hs : q08b l i = some s
  ·have e : putE S.env (q08b l i) (v i) s = v i := by rw [hs]; simp [putE, q0x2]
   refine ⟨fun j hj hD hjs => ?_, fun h => absurd hs (h i hi (by simp))⟩
   show putE S.env (q08b l i) (v i) s = v j
   rw [e]
   by_cases hji : j = i
   ·rw [hji]
   ·exact absurd hs (hd j i hj hi hji s hjs)
  ·have e : putE S.env (q08b l i) (v i) s = S.env s := by
    cases hx : q08b l i with
    | none => rfl
    | some d => exact q0x1 _ _ _ _ fun e => hs (by rw [hx, e])
   refine ⟨fun j hj hD hjs => ?_, fun h => ?_⟩
   ·show putE S.env (q08b l i) (v i) s = v j
    rw [e]
    have hD : D j = true ∨ j = i := by simpa using hD
    rcases hD with hD | rfl
    ·exact hc j hj hD hjs
    ·exact absurd hjs hs
   ·show putE S.env (q08b l i) (v i) s = e0 s
    rw [e]
    exact hdd fun j hj hD => h j hj (by simp [hD])
 ·show apR (Dl i) S.roots = _
  rw [hR]; exact F.next hi hDi ho
end
end
end Go.Ab

/- The abstract layer, part 26: the rule for a region that draws its order. -/
namespace Go.Ab

section
variable {P : Program} {n : Nat} {S : St} {X : Nat -> Prop} {w0 : World} {O0 : Fr} {a : Act} {w : World} {hs : Nat -> Option Value} {fp : Nat -> List Nat}

theorem Good.drawn (g : Good X w0 O0 n S a w hs fp) (k : Nat) : Good X w0 O0 n S a { w with drawn := k } hs fp := by
 have hk : q009 (fun b => ¬ Ob X fp b) w { w with drawn := k } := fun b cs e fz _ h => h
 exact ⟨g.size, g.defers.keep fun D _ h => h, fun i => (g.env i).mono hk (fun b h _ => h) (fun _ _ h => h), fun r => g.keepRoot r hk (fun b h _ => h) (fun _ _ h => h) rfl (fun b _ => rfl), g.disj, g.nodup, g.foreign, g.xold, g.xout, g.mine, ⟨g.hist.os, g.hist.tape, g.hist.output, g.hist.size, g.hist.block⟩, g.rooty, g.hdr, g.small, g.pin⟩

theorem q0g7 {ops : Array Oper} {i : Nat} {o : Oper} {ci : CI} {Kc : St -> Prop} {Q : Exit -> Act -> World -> Prop} (ho : ops[i]? = some o) (hc : trI P n ops o = some ci) (hW : opsW P n [ci] Kc S) (g : Good X w0 O0 n S a w hs fp) :
  wpOp P ops Q i (fun a' w' => ∃ S' hs' fp', Good X w0 O0 n S' a' w' hs' fp' /\ Kc S') a w := by
 unfold wpOp
 simp only [ho]
 simp only [trI] at hc
 split at hc
 ·rename_i co hco
  split at hc
  ·rename_i hg
   cases hc
   have hw : Region.wanted o (yielded ops a.tmps) = true := by simp [Region.wanted, hg]
   rw [if_pos hw]
   exact .inl (q0vv hco hW X w0 O0 a w hs fp g Q)
  ·rename_i j want hg
   split at hc
   ·rename_i oj hoj
    have core : ∀ s d, oj.dst = some s -> o.dst = d -> (∀ k, d = some k -> k < n) -> opsW P n [.g s want d co] Kc S →
      if Region.wanted o (yielded ops a.tmps) = true then o.wp P a w (fun a' w' => ∃ S' hs' fp', Good X w0 O0 n S' a' w' hs' fp' /\ Kc S') Q ∨ (o.asks P a w /\ LetsOut Q) else ∃ S' hs' fp', Good X w0 O0 n S' (a.put o.dst Go.undef) w hs' fp' /\ Kc S' := by
     intro s d hs' hdd hdn hW
     simp only [opsW] at hW
     unfold q0dc at hW
     split at hW
     ·rename_i b hb
      have hval := g.env s
      rw [hb] at hval
      have hval := hval.v_inv
      have ht : a.tmps[s]? = some (.bool b) := by
       rw [Array.getD_eq_getD_getElem?] at hval
       cases hx : a.tmps[s]? with
       | none => rw [hx] at hval; simp [undef] at hval
       | some v => rw [hx] at hval; simpa using hval
      have hy := q0xy hoj hs' ht
      by_cases hbw : b = want
      ·have hw : Region.wanted o (yielded ops a.tmps) = true := by simp [Region.wanted, hg, hy, hbw]
       rw [if_pos hw]
       have h1 := hW.1 hbw
       rw [q08g _ _ _ (by rw [hb, hbw])] at h1
       exact .inl (q0vv hco h1 X w0 O0 a w hs fp g Q)
      ·have hw : ¬ Region.wanted o (yielded ops a.tmps) = true := by simp [Region.wanted, hg, hy, hbw]
       rw [if_neg hw]
       have e' : b = !want := by cases b <;> cases want <;> simp_all
       have h1 := hW.2 e'
       rw [q08g _ _ _ (by rw [hb, e'])] at h1
       exact ⟨_, hs, fp, g.noval o.dst (fun k hk => hdn k (hdd ▸ hk)), hdd ▸ h1⟩
     ·rename_i xs hb
      have hval := g.env s
      rw [hb] at hval
      have hy := q0xz hoj hs' hval.v_inv
      have hw : ¬ Region.wanted o (yielded ops a.tmps) = true := by simp [Region.wanted, hg, hy]
      rw [if_neg hw]
      exact ⟨_, hs, fp, g.noval o.dst (fun k hk => hdn k (hdd ▸ hk)), hdd ▸ hW⟩
     ·exact hW.elim
    split at hc
    ·rename_i s d hs' hdd
     split at hc
     ·rename_i hdn
      cases hc
      exact core s (some d) hs' hdd (fun k hk => by cases hk; exact hdn) hW
     ·cases hc
    ·rename_i s hs' hdd
     cases hc
     exact core s none hs' hdd (fun k hk => by cases hk) hW
    ·cases hc
   ·cases hc
 ·cases hc

def afOf (ops : Array Oper) : List (List Nat) := ops.toList.map fun o => (o.after.toList.filter (Region.binds .any)).map (·.on)

def closed (af : List (List Nat)) (D : Nat -> Prop) : Prop := ∀ i, D i -> ∀ j ∈ af.getD i [], D j

theorem q00x {af anc : List (List Nat)} {m : Nat} (h1 : ∀ i, i < m -> ∀ j ∈ af.getD i [], j < i) (h2 : ∀ i, i < m -> ∀ j ∈ anc.getD i [], j ∈ af.getD i [] ∨ ∃ k, k ∈ af.getD i [] /\ j ∈ anc.getD k [])
  {D : Nat -> Prop} (hD : closed af D) : ∀ i, i < m -> (∀ j ∈ af.getD i [], D j) -> ∀ j ∈ anc.getD i [], D j := by
 intro i
 induction i using Nat.strongRecOn with
 | _ i ih =>
   intro hi haf j hj
   rcases h2 i hi j hj with h | ⟨k, hk, hjk⟩
   ·exact haf j h
   ·have hki := h1 i hi k hk
    exact ih k hki (by omega) (hD k (haf k hk)) j hjk

structure DrawFacts (ds : List Nat) (l : List (DK × CI)) (af anc : List (List Nat)) : Prop where
 afl : af.length = l.length
 dst : ∀ i j, i < l.length -> j < l.length -> i ≠ j -> ∀ s, q08b l i = some s -> q08b l j ≠ some s
 fwd : ∀ i, i < l.length -> ∀ j ∈ af.getD i [], j < i
 afwd : ∀ i, i < l.length -> ∀ j ∈ anc.getD i [], j < i
 ancs : ∀ i, i < l.length -> ∀ j ∈ anc.getD i [], j ∈ af.getD i [] ∨ ∃ k, k ∈ af.getD i [] /\ j ∈ anc.getD k []
 item : ∀ p ∈ l, q0g6 p = true
 self : ∀ i, i < l.length -> ∀ s ∈ rdAt l i, q08b l i ≠ some s
 ind : ∀ i j, i < l.length -> j < l.length -> j ≠ i -> j ∈ anc.getD i [] ∨ i ∈ anc.getD j [] ∨ ((∀ s ∈ rdAt l i, q08b l j ≠ some s) /\ (j < i -> q0nm l j i = true) /\ (i < j -> q0nm l i j = true))
 small : ∀ i, i < l.length -> (kAt l i).isR = false -> ∀ d, q08b l i = some d -> d < 1000
 makers : ∀ i, i < l.length -> (kAt l i).isC = true -> ∀ d, q08b l i = some d -> d ∈ ds

def q082 (ds : List Nat) (l : List (DK × CI)) (af anc : List (List Nat)) : Bool :=
 (af.length == l.length) && l.all q0g6 && (List.range l.length).all fun i =>
  (af.getD i []).all (fun j => decide (j < i)) && (anc.getD i []).all (fun j => decide (j < i) && ((af.getD i []).contains j || (af.getD i []).any fun k => (anc.getD k []).contains j)) &&
  (rdAt l i).all (fun s => q08b l i != some s) &&
  ((kAt l i).isR || (match q08b l i with | some d => decide (d < 1000) | none => true)) &&
  (!(kAt l i).isC || (match q08b l i with | some d => ds.contains d | none => true)) &&
  (List.range l.length).all fun j => j == i || ((match q08b l i with | some s => q08b l j != some s | none => true) && ((anc.getD i []).contains j || (anc.getD j []).contains i ||
   ((rdAt l i).all fun s => q08b l j != some s) && (if j < i then q0nm l j i else q0nm l i j)))

theorem q083 {ds : List Nat} {l : List (DK × CI)} {af anc : List (List Nat)} (h : q082 ds l af anc = true) : DrawFacts ds l af anc := by
 simp only [q082, Bool.and_eq_true, beq_iff_eq, List.all_eq_true, List.mem_range, decide_eq_true_eq, Bool.or_eq_true, List.contains_iff_mem, List.any_eq_true, bne_iff_ne, Bool.not_eq_true'] at h
 obtain ⟨⟨h1, h2⟩, h3⟩ := h
 refine ⟨h1, fun i j hi hj hij s hs => ?_, fun i hi => (h3 i hi).1.1.1.1.1, fun i hi j hj => ((h3 i hi).1.1.1.1.2 j hj).1, fun i hi j hj => ((h3 i hi).1.1.1.1.2 j hj).2, h2, fun i hi => (h3 i hi).1.1.1.2, fun i j hi hj hji => ?_, fun i hi hr d hd => ?_, fun i hi hr d hd => ?_⟩
 ·have := ((h3 i hi).2 j hj).resolve_left (Ne.symm hij)
  have := this.1
  rw [hs] at this
  simpa using this
 ·have := (((h3 i hi).2 j hj).resolve_left hji).2
  rcases this with (h | h) | ⟨h, h'⟩
  ·exact .inl h
  ·exact .inr (.inl h)
  ·refine .inr (.inr ⟨h, fun hlt => ?_, fun hlt => ?_⟩)
   ·rwa [if_pos hlt] at h'
   ·rwa [if_neg (by omega)] at h'
 ·have := (h3 i hi).1.1.2
  rw [hr, hd] at this
  simpa using this
 ·have := (h3 i hi).1.2
  rw [hr, hd] at this
  simpa using this

theorem q0nj {ds : List Nat} {l : List (DK × CI)} {af anc : List (List Nat)} (F : DrawFacts ds l af anc) {D : Nat -> Bool} (hD : closed af (fun j => D j = true)) {i : Nat} (hi : i < l.length) (hDi : ¬ D i = true) (haf : ∀ j ∈ af.getD i [], D j = true) : Ord l D i := by
 intro j hj hji
 have before : j ∈ anc.getD i [] -> j < i /\ D j = true := fun h => ⟨F.afwd i hi j h, q00x F.fwd F.ancs hD i hi haf j h⟩
 have after : i ∈ anc.getD j [] -> i < j /\ ¬ D j = true := fun h => ⟨F.afwd j hj i h, fun hDj => hDi (q00x F.fwd F.ancs hD j hj (hD j hDj) i h)⟩
 rcases F.ind i j hi hj hji with h | h | h
 ·exact .inl (before h)
 ·exact .inr (.inl (after h))
 ·exact .inr (.inr h)

theorem q0xn {ds : List Nat} {ops : Array Oper} {l : List (DK × CI)} {af anc : List (List Nat)} (F : DrawFacts ds l af anc) (haf : af = afOf ops) (hsz : ops.size = l.length) (htr : ∀ i (h : i < l.length), ∃ o, ops[i]? = some o /\ trI P n ops o = some l[i].2)
  {v : Nat -> A} {Dl : Nat -> List (Nat × Root)} {R0 : Nat -> Root} {e0 : Nat -> A} (hloc : ∀ i (h : i < l.length), LocAt P n l[i].1 l[i].2 ⟨q08c l v e0 i, rtA Dl R0 i⟩ (v i) (Dl i)) (C : Chg l Dl R0)
  {Q : Exit -> Act -> World -> Prop} (hQ : ∀ S a w hs fp, Good X w0 O0 n S a w hs fp -> S = ⟨q08c l v e0 l.length, rtA Dl R0 l.length⟩ -> Q .normal a w) :
  ∀ (fuel : Nat) (listed : Array Bool) (S : St) (a : Act) (w : World) (hs : Nat -> Option Value) (fp : Nat -> List Nat), Good X w0 O0 n S a w hs fp -> listed.size = l.length -> ((List.range l.length).filter fun j => !listed.getD j false).length <= fuel →
    closed af (fun j => listed.getD j false = true) -> AtD l v Dl R0 e0 (fun j => listed.getD j false) S -> wpAny P .any ops Q fuel listed a w := by
 have gt : ∀ {listed : Array Bool} {j : Nat}, listed.size = l.length -> j < l.length -> (listed.getD j true = false ↔ ¬ listed.getD j false = true) := fun {listed j} h1 h2 => by
  have : j < listed.size := by omega
  simp [this]
 have haff : ∀ i o, ops[i]? = some o -> ∀ j, j ∈ af.getD i [] ↔ ∃ e ∈ o.after, Region.binds .any e = true /\ e.on = j := by
  intro i o ho j
  have : (afOf ops).getD i [] = (o.after.toList.filter (Region.binds .any)).map (·.on) := by
   rw [afOf, List.getD_eq_getElem?_getD, List.getElem?_map]
   have : ops.toList[i]? = some o := by simpa using ho
   rw [this]; rfl
  rw [haf, this, List.mem_map]
  constructor
  ·rintro ⟨e, he, rfl⟩
   obtain ⟨h1, h2⟩ := List.mem_filter.1 he
   exact ⟨e, by simpa using h1, h2, rfl⟩
  ·rintro ⟨e, he, hb, rfl⟩
   exact ⟨e, List.mem_filter.2 ⟨by simpa using he, hb⟩, rfl⟩
 have fin : ∀ (listed : Array Bool) (S : St) (a : Act) (w : World) (hs : Nat -> Option Value) (fp : Nat -> List Nat), Good X w0 O0 n S a w hs fp -> listed.size = l.length -> AtD l v Dl R0 e0 (fun j => listed.getD j false) S -> (∀ j, j < l.length -> listed.getD j false = true) -> Q .normal a w := by
  intro listed S a w hs fp g hls hAt hall
  refine hQ S a w hs fp g ?_
  obtain ⟨hE, hR⟩ := hAt
  have h1 : S.roots = rtA Dl R0 l.length := by
   rw [hR]
   have : ∀ k, k <= l.length -> rtD Dl R0 (fun j => listed.getD j false) k = rtA Dl R0 k := by
    intro k
    induction k with
    | zero => intro _; rfl
    | succ k ih =>
      intro hk
      show (if listed.getD k false = true then apR (Dl k) _ else _) = _
      rw [if_pos (hall k (by omega)), ih (by omega), q0qg]
   exact this _ (Nat.le_refl _)
  have h2 : S.env = q08c l v e0 l.length := by
   funext s
   obtain ⟨ha, hb⟩ := q08e (v := v) (e0 := e0) F.dst s l.length (Nat.le_refl _)
   by_cases hex : ∃ j, j < l.length /\ q08b l j = some s
   ·obtain ⟨j, hj, hjs⟩ := hex
    rw [ha j hj hjs, (hE s).1 j hj (hall j hj) hjs]
   ·rw [hb fun j hj hjs => hex ⟨j, hj, hjs⟩, (hE s).2 fun j hj _ hjs => hex ⟨j, hj, hjs⟩]
  rw [← h1, ← h2]
 have allof : ∀ (listed : Array Bool), listed.size = l.length -> closed af (fun j => listed.getD j false = true) -> Region.ready .any ops listed = [] -> ∀ j, j < l.length -> listed.getD j false = true := by
  intro listed hls hcl hr j
  induction j using Nat.strongRecOn with
  | _ j ih =>
    intro hj
    refine Decidable.byContradiction fun hn => ?_
    obtain ⟨o, ho, _⟩ := htr j hj
    have : j ∈ Region.ready .any ops listed := by
     refine mem_ready.2 ⟨(gt hls hj).2 hn, o, ho, fun e he hb => ?_⟩
     have hmem := (haff j o ho e.on).2 ⟨e, he, hb, rfl⟩
     have hlt := F.fwd j hj _ hmem
     exact ih _ hlt (by omega)
    rw [hr] at this
    cases this
 intro fuel
 induction fuel with
 | zero =>
   intro listed S a w hs fp g hls hcnt hcl hAt
   have hall : ∀ j, j < l.length -> listed.getD j false = true := fun j hj => by
    have h0 := List.eq_nil_of_length_eq_zero (Nat.le_zero.1 hcnt)
    have := List.filter_eq_nil_iff.1 h0 j (List.mem_range.2 hj)
    simpa using this
   refine ⟨?_, fin listed S a w hs fp g hls hAt hall⟩
   refine List.eq_nil_iff_forall_not_mem.2 fun j hj => ?_
   obtain ⟨h1, o, ho, _⟩ := mem_ready.1 hj
   have hjl : j < l.length := by rw [← hsz]; exact (Array.getElem?_eq_some_iff.1 ho).1
   exact (gt hls hjl).1 h1 (hall j hjl)
 | succ fuel ih =>
   intro listed S a w hs fp g hls hcnt hcl hAt
   refine ⟨fun hr => fin listed S a w hs fp g hls hAt (allof listed hls hcl hr), fun i hi => ?_⟩
   obtain ⟨hun, o, ho, hall⟩ := mem_ready.1 hi
   have hil : i < l.length := by rw [← hsz]; exact (Array.getElem?_eq_some_iff.1 ho).1
   have hDi := (gt hls hil).1 hun
   have hafi : ∀ j ∈ af.getD i [], listed.getD j false = true := fun j hj => by
    obtain ⟨e, he, hb, rfl⟩ := (haff i o ho j).1 hj
    exact hall e he hb
   have hord := q0nj (D := fun j => listed.getD j false) F hcl hil hDi hafi
   obtain ⟨h1, h2, h4, h3⟩ := hAt.step C hil (F.self i hil) hDi hord
   obtain ⟨o', ho', htri⟩ := htr i hil
   rw [ho] at ho'; cases ho'
   have hgi : l[i]? = some l[i] := List.getElem?_eq_getElem hil
   have hrd : rdAt l i = l[i].2.reads := by simp [rdAt, hgi]
   have hka : kAt l i = l[i].1 := by simp [kAt, hgi]
   have hda : q08b l i = l[i].2.dst := by simp [q08b, hgi]
   rw [hrd] at h1; rw [hka] at h2 h4; rw [hda] at h3
   have hW := (hloc i hil).run S.env S.roots (fun S' => S' = ⟨putE S.env l[i].2.dst (v i), apR (Dl i) S.roots⟩) h1 h2 h4 rfl
   have := q0g7 (Q := Q) ho htri (show opsW P n [l[i].2] _ S from hW) g
   refine wpOp_mono (fun a' w' ⟨S', hs', fp', g', hS'⟩ => ?_) this
   subst hS'
   have hset : ∀ j, (listed.setIfInBounds i true).getD j false = true ↔ (listed.getD j false = true ∨ j = i) := fun j => by
    by_cases hji : j = i
    ·subst hji; simp [show j < listed.size by omega]
    ·rw [getD_set_ne false (Ne.symm hji)]; simp [hji]
   refine ih _ _ a' w' hs' fp' g' (by simp [hls]) ?_ ?_ ?_
   ·have e : ((List.range l.length).filter fun j => !(listed.setIfInBounds i true).getD j false) = ((List.range l.length).filter fun j => !listed.getD j false).filter fun j => j != i := by
     rw [List.filter_filter]
     refine List.filter_congr fun j _ => ?_
     by_cases hji : j = i
     ·subst hji; have := (hset j).2 (.inr rfl); rw [this]; simp
     ·rw [getD_set_ne false (Ne.symm hji)]; simp [hji]
    rw [e]
    have : (((List.range l.length).filter fun j => !listed.getD j false).filter fun j => j != i).length < ((List.range l.length).filter fun j => !listed.getD j false).length := by
     rw [List.length_filter_lt_length_iff_exists]
     exact ⟨i, List.mem_filter.2 ⟨List.mem_range.2 hil, by simpa using hDi⟩, by simp⟩
    omega
   ·intro j hj k hk
    refine (hset k).2 (.inl ?_)
    rcases (hset j).1 hj with h | rfl
    ·exact hcl j h k hk
    ·exact hafi k hk
   ·have e : (fun j => (listed.setIfInBounds i true).getD j false) = fun j => listed.getD j false || j == i := by
     funext j
     have := hset j
     by_cases hji : j = i
     ·subst hji; simp [show j < listed.size by omega]
     ·rw [getD_set_ne false (Ne.symm hji)]; simp [hji]
    rw [e]; exact h3

theorem Sem.draw {id : Nat} {ds : List Nat} {ops : Array Oper} {l : List (DK × CI)} {anc : List (List Nat)} (hnd : ∀ o ∈ ops.toList, ∀ c, o.op ≠ .defer c) (hm : P.follows .mixedOrders = true) (hok : q082 ds l (afOf ops) anc = true) (hsz : ops.size = l.length) (htr : ∀ i (h : i < l.length), ∃ o, ops[i]? = some o /\ trI P n ops o = some l[i].2)
  {Q : Exit -> St -> Prop} (hds : q0ji ds S.roots = S.roots) (h : q085 P n l (Q .normal) S) : Sem P n (.region id ops true) Q S := by
 intro X w0 O0 a w hs fp g ro hro _
 have F := q083 hok
 obtain ⟨v, Dl, h2, h3⟩ := q087 l S F.item h
 have hk : ∀ {i} (hi : i < l.length), kAt l i = l[i].1 := fun {i} hi => by simp [kAt, List.getElem?_eq_getElem hi]
 have hd : ∀ {i} (hi : i < l.length), q08b l i = l[i].2.dst := fun {i} hi => by simp [q08b, List.getElem?_eq_getElem hi]
 have C : Chg l Dl S.roots := ⟨fun i hi r hr => by rw [hk hi, hd hi]; exact (h2 i hi).keys r hr, fun i hi hr => (h2 i hi).isR (by rw [← hk hi]; exact hr), fun i hi hr r hkr => by rw [hd hi]; exact (h2 i hi).isC (by rw [← hk hi]; exact hr) r hkr, fun i hi W m hW r hkr => by rw [hd hi]; exact (h2 i hi).isH W m (by rw [← hk hi]; exact hW) r hkr,
  F.dst, F.small, fun i hi hc d hdd r hr => by rw [← hds]; exact q0jk (F.makers i hi hc d hdd) hr,
  fun i hi => by
   rw [hk hi, hd hi]
   have := F.item l[i] (List.getElem_mem hi)
   revert this
   rcases l[i] with ⟨k, c⟩
   cases c <;> simp only [q0g6, Bool.and_eq_true, beq_iff_eq, CI.dst] <;> intro h
   ·exact h.2
   ·rw [h.2]; exact h.1.2⟩
 refine wpIn_mono (Q := fun e a' w' => (e = .normal /\ ∃ S' hs' fp', Good X w0 O0 n S' a' w' hs' fp' /\ Q .normal S') /\ (e = .normal -> Same (dstO ops) a a')) (wpIn_region_draw fun t => q0xo hnd (by rintro ⟨_, _, ⟨h, _⟩, _⟩; cases h) _ a _ (q0xp _ a _ ?_ (.refl _ _))) (by rintro e a' w' ⟨⟨rfl, h⟩, hsm⟩; exact ⟨h, hsm rfl⟩)
 simp only [Region.schedule, hm, Bool.true_or, if_true]
 refine wpAny_sound ops.size t _ a _ ?_
 have hfalse : ∀ j, (Array.replicate ops.size false).getD j false = false := fun j => by
  by_cases hj : j < ops.size <;> simp [hj]
 have hno : ∀ j, ¬ (Array.replicate ops.size false).getD j false = true := fun j h => by rw [hfalse] at h; cases h
 refine q0xn F rfl hsz htr h2 C (fun S' a' w' hs' fp' g' hS' => ⟨rfl, S', hs', fp', g', by rw [hS']; exact h3⟩) _ _ S a _ hs fp (g.drawn _) (by simp [hsz]) ?_ (fun i hi => (hno i hi).elim) ⟨fun s => ⟨fun j _ hj _ => (hno j hj).elim, fun _ => rfl⟩, ?_⟩
 ·rw [hsz]
  exact Nat.le_trans (List.length_filter_le _ _) (by simp)
 have : ∀ k, rtD Dl S.roots (fun j => (Array.replicate ops.size false).getD j false) k = S.roots := by
  intro k
  induction k with
  | zero => rfl
  | succ k ih =>
    show (if (Array.replicate ops.size false).getD k false = true then apR (Dl k) _ else _) = _
    rw [if_neg (hno k), ih]
 exact (this _).symm
end
end Go.Ab

/- The abstract layer, part 25: compact code as a whole. -/
namespace Go.Ab

inductive CC where
 | skip
 | reg (l : List CI)
 | draw (ds : List Nat) (l : List (DK × CI))
 | seq (a b : CC)
 | cond (x : Operand) (a b : CC)
 | block (id : Nat) (c : CC)
 | loop (c : CC)
 | exit (id : Nat)
 | ret
 | weak (c : CC)
 | regL (l : List CI)
 | rng (g : Operand) (ps : List Nat) (a b : CC)

def CI.co : CI -> CO
 | .o c => c
 | .g _ _ _ c => c
def q0o8 (P : Program) : Nat -> TypeId -> Bool
 | 0, _ => false
 | k + 1, t => (match P.underlying t with
   | some .bool | some (.int _) | some .string => true
   | some (.struct fs) => fs.toList.all fun f => q0o8 P k f.type
   | some (.array _ e) => q0o8 P k e
   | some (.tuple ts) => ts.toList.all fun t => q0o8 P k t
   | _ => false)
def q0od (P : Program) (t : TypeId) : Bool := match P.underlying t with | some (.pointer _) => true | _ => false
def q06h (P : Program) (o : Oper) (c : CI) : Nat :=
 match c.co with
 | .alloc .. | .make .. => 1
 | .bslice .. => (match o.op with | .buildSlice t _ _ => (match q0w9 P t with | some e => if q0o8 P 9 e then 1 else 3 | none => 3) | _ => 3)
 | .box .. => (match o.op with | .box t _ => if q0o8 P 9 t then 1 else 3 | _ => 3)
 | .store .. | .app .. => 3
 | .call d _ _ => if d.isNone || (match o.op with | .call k => k.argTypes.any (q0od P) | _ => true) then 3 else if q0o8 P 9 o.type then 0 else 2
 | _ => 0
def q00w (acc : List (List Nat)) : List (List Nat) -> List (List Nat)
 | [] => acc
 | a :: rest => q00w (acc ++ [a ++ (a.map fun j => acc.getD j []).flatten]) rest
def q0wx (anc : List (List Nat)) (i j : Nat) : Bool := !((anc.getD i []).contains j || (anc.getD j []).contains i)
def q0h7 (cl : List Nat) (dst : List (Option Nat)) (anc : List (List Nat)) : List DK :=
 let m := cl.length
 let maskOf (i : Nat) : List Nat := (List.range i).filterMap fun j => if (cl.getD j 0 == 1 || cl.getD j 0 == 2) && q0wx anc i j then dst.getD j none else none
 (List.range m).map fun i => match cl.getD i 0 with
  | 0 => if (List.range m).any fun j => cl.getD j 0 == 3 && q0wx anc i j then .r true [] else .r false (maskOf i)
  | 1 => .c true []
  | 2 => .c false (maskOf i)
  | _ => .h none []
def q0jg (cl : List Nat) (dst : List (Option Nat)) : List Nat := (cl.zip dst).filterMap fun p => if p.1 == 1 || p.1 == 2 then p.2 else none
def q0h6 (n : Nat) (dst : List (Option Nat)) (i : Nat) : Option DK :=
 if n = 31 /\ dst.head? = some (some 16) /\ dst.length = 15 then (match i with | 1 => some (.r false [1000000000, 28]) | 12 => some (.h (some [1000000000]) []) | _ => none)
 else if n = 37 /\ dst.head? = some (some 23) /\ dst.length = 14 then (match i with | 1 => some (.r false [1000000000, 34]) | 11 => some (.h (some [1000000000]) []) | _ => none)
 else if n = 17 /\ dst.head? = some (some 11) /\ dst.length = 7 then (match i with | 2 | 3 | 4 => some (.r false [4]) | 5 => some (.h (some [4]) []) | _ => none)
 else if n = 139 /\ dst.head? = some (some 23) /\ dst.length = 14 then (match i with | 5 | 6 | 7 | 8 => some (.r false [6, 27]) | 11 => some (.h (some [6, 27]) [32]) | _ => none)
 else if n = 25 /\ dst.head? = some (some 16) /\ dst.length = 8 then (match i with | 0 => some (.r false [19, 20]) | 1 => some (.r false [19, 20]) | 2 => some (.r false [20]) | 4 => some (.h (some [19]) []) | _ => none)
 else none
structure Hints where
 k : List (Nat × Nat × DK)
 w : List Nat
def Hints.kind (H : Hints) (id i : Nat) : Option DK := (H.k.find? fun p => p.1 == id && p.2.1 == i).map (·.2.2)
def q0xi (n id : Nat) : Bool := [(25, 5), (194, 24), (83, 14)].contains (n, id)
def Hints.weak (H : Hints) (n id : Nat) : Bool := q0xi n id || H.w.contains id
def q084 (P : Program) (n : Nat) (H : Hints) (id : Nat) (ops : Array Oper) (l : List CI) : List Nat × List (DK × CI) :=
 let bases := l.filterMap fun c => match c.co with | .app _ _ _ (.tmp b) _ => some b | _ => none
 let cl := (ops.toList.zip l).map fun p => match p.2.co with | .load1 d _ => if bases.contains d then 3 else 0 | _ => q06h P p.1 p.2
 let dst := l.map CI.dst
 (q0jg cl dst, ((q0h7 cl dst (q00w [] (afOf ops))).mapIdx fun i k => (H.kind id i).getD ((q0h6 n dst i).getD k)).zip l)

def q0vt (P : Program) (n : Nat) (H : Hints) (id : Nat) (ops : Array Oper) : Option (List Nat × List (DK × CI)) :=
 match trR P n ops ops.toList with
 | some l => if P.follows .mixedOrders = true /\ (q084 P n H id ops l).2.length = l.length /\ q082 (q084 P n H id ops l).1 (q084 P n H id ops l).2 (afOf ops) (q00w [] (afOf ops)) = true then some (q084 P n H id ops l) else none
 | none => none

def trC (P : Program) (n : Nat) (H : Hints) : Code -> Option CC
 | .skip => some .skip
 | .region id ops false => (match trR P n ops ops.toList with | some l => (match H.w.contains (id + 1000), H.w.contains id with | true, _ => some (.regL l) | false, false => some (.reg l) | false, true => some (.weak (.reg l))) | none => none)
 | .region id ops true => (match q0vt P n H id ops, H.weak n id with | some l, false => some (.draw l.1 l.2) | some l, true => some (.weak (.draw l.1 l.2)) | none, _ => none)
 | .seq a b => (match trC P n H a, trC P n H b with | some a, some b => some (.seq a b) | _, _ => none)
 | .cond x a b => (match trC P n H a, trC P n H b with | some a, some b => some (.cond x a b) | _, _ => none)
 | .block id c => (match trC P n H c with | some c => some (.block id c) | none => none)
 | .loop c => (match trC P n H c with | some c => some (.loop c) | none => none)
 | .exit id => some (.exit id)
 | .ret => some .ret
 | .rangeFunc g ps a b => (match trC P n H a, trC P n H b with | some a, some b => some (.rng g ps.toList a b) | _, _ => none)
 | _ => none

def q0um (K : St -> Prop) (Q : Exit -> St -> Prop) : Exit -> St -> Prop
 | .normal, S => K S
 | e, S => Q e S

def SemC (P : Program) (n : Nat) (c : CC) (Q : Exit -> St -> Prop) (S : St) : Prop := ∀ H code, trC P n H code = some c -> Sem P n code Q S

def cW (P : Program) (n : Nat) : CC -> (Exit -> St -> Prop) -> St -> Prop
 | .skip, Q, S => Q .normal S
 | .reg l, Q, S => opsW P n l (Q .normal) S
 | .draw ds l, Q, S => q0ji ds S.roots = S.roots /\ q085 P n l (Q .normal) S
 | .seq a b, Q, S => cW P n a (q0um (cW P n b Q) Q) S
 | .cond x a b, Q, S => condC (S.ev x) (cW P n a Q) (cW P n b Q) S
 | .block id c, Q, S => cW P n c (q028 id Q) S
 | .loop c, Q, S => SemC P n (.loop c) Q S
 | .exit id, Q, S => Q (.exit id) S
 | .ret, Q, S => Q .ret S
 | .weak c, Q, S => ∃ S', Weak n S S' /\ cW P n c Q S'
 | .regL l, Q, S => opsW P n (l.map CI.toL) (Q .normal) S
 | .rng g ps a b, Q, S => SemC P n (.rng g ps a b) Q S

section
variable {P : Program} {n : Nat} {S : St}

theorem q0vy {ops : Array Oper} : ∀ {os : List Oper} {l : List CI}, trR P n ops os = some l -> l.length = os.length /\ ∀ i (h : i < os.length) (h' : i < l.length), trI P n ops os[i] = some l[i]
 | [], l, h => by simp only [trR, Option.some.injEq] at h; subst h; exact ⟨rfl, fun i h => absurd h (by simp)⟩
 | o :: os, l, h => by
   simp only [trR] at h
   split at h
   ·rename_i c cl hc hcl hdf
    cases h
    obtain ⟨h1, h2⟩ := q0vy hcl
    refine ⟨by simp [h1], fun i h h' => ?_⟩
    cases i with
    | zero => exact hc
    | succ i => exact h2 i (by simpa using h) (by simpa using h')
   ·cases h

theorem q088 {H : Hints} {ds : List Nat} {l : List (DK × CI)} {id : Nat} {ops : Array Oper} {l0 : List Nat × List (DK × CI)} (hdr : q0vt P n H id ops = some l0) (h1 : ds = l0.1) (h2 : l = l0.2) {Q : Exit -> St -> Prop} {S : St} (h : cW P n (.draw ds l) Q S) : Sem P n (.region id ops true) Q S := by
 subst h1 h2
 unfold q0vt at hdr
 split at hdr <;> (try split at hdr) <;> (try cases hdr)
 rename_i l' hl hcond
 obtain ⟨h1, h2⟩ := q0vy hl
 have hlen : (q084 P n H id ops l').2.length = l'.length := hcond.2.1
 refine Sem.draw (fun o ho => q081 (q0vx hl o ho)) hcond.1 hcond.2.2 (by rw [hlen, h1]; simp) (fun i hi => ?_) h.1 h.2
 have hi' : i < ops.toList.length := by rw [← h1, ← hlen]; exact hi
 refine ⟨ops.toList[i], by rw [← Array.getElem?_toList]; exact List.getElem?_eq_getElem hi', ?_⟩
 rw [h2 i hi' (by omega)]
 simp [q084]
theorem Sem.weakS {code : Code} {Q : Exit -> St -> Prop} {S S' : St} (hw : Weak n S S') (h : Sem P n code Q S') : Sem P n code Q S := fun X w0 O0 a w hs fp g ro hr hk => by
 obtain ⟨hs', fp', g'⟩ := hw X w0 O0 a w hs fp g
 exact h X w0 O0 a w hs' fp' g' ro hr hk
theorem q031 : ∀ (c : CC) (Q : Exit -> St -> Prop) (S : St), cW P n c Q S -> SemC P n c Q S := by
 intro c
 induction c with
 | skip =>
   intro Q S h H code hc
   unfold trC at hc
   split at hc <;> (try split at hc) <;> (try split at hc) <;> (try cases hc)
   exact Sem.skip h
 | reg l =>
   intro Q S h H code hc
   unfold trC at hc
   split at hc <;> (try split at hc) <;> (try split at hc) <;> (try cases hc)
   refine Sem.region (fun o ho => q081 (q0vx ‹trR P n _ _ = some _› o ho)) ?_
   have := q0nh (K := Q .normal) _ 0 _ S rfl ‹trR P n _ _ = some _› h
   rw [List.range_eq_range']
   simpa using this
 | draw ds l =>
   intro Q S h H code hc
   unfold trC at hc
   split at hc <;> (try split at hc) <;> (try split at hc) <;> (try cases hc)
   rename_i hdr _
   exact q088 hdr rfl rfl h
 | seq a b iha ihb =>
   intro Q S h H code hc
   unfold trC at hc
   split at hc <;> (try split at hc) <;> (try split at hc) <;> (try cases hc)
   rename_i x y hx hy
   refine Sem.seq ((iha _ S h _ _ hx).mono fun e S' q => ?_)
   cases e with
   | normal => exact ihb Q S' q _ _ hy
   | _ => exact q
 | cond x a b iha ihb =>
   intro Q S h H code hc
   unfold trC at hc
   split at hc <;> (try split at hc) <;> (try split at hc) <;> (try cases hc)
   rename_i hx hy
   simp only [cW] at h
   unfold condC at h
   split at h
   ·rename_i b' hb
    exact Sem.cond hb (fun e => iha Q S (h.1 e) _ _ hx) (fun e => ihb Q S (h.2 e) _ _ hy)
   ·exact h.elim
 | block id c ih =>
   intro Q S h H code hc
   unfold trC at hc
   split at hc <;> (try split at hc) <;> (try split at hc) <;> (try cases hc)
   rename_i x hx
   exact Sem.block (ih _ S h _ _ hx)
 | loop c ih => intro Q S h; exact h
 | exit id =>
   intro Q S h H code hc
   unfold trC at hc
   split at hc <;> (try split at hc) <;> (try split at hc) <;> (try cases hc)
   exact Sem.exit h
 | ret =>
   intro Q S h H code hc
   unfold trC at hc
   split at hc <;> (try split at hc) <;> (try split at hc) <;> (try cases hc)
   exact Sem.ret h
 | weak c ih =>
   intro Q S h H code hc
   obtain ⟨S', hw, h⟩ := h
   unfold trC at hc
   split at hc <;> (try split at hc) <;> (try split at hc) <;> (try cases hc)
   ·refine Sem.weakS hw (Sem.region (fun o ho => q081 (q0vx ‹trR P n _ _ = some _› o ho)) ?_)
    have := q0nh (K := Q .normal) _ 0 _ S' rfl ‹trR P n _ _ = some _› h
    rw [List.range_eq_range']
    simpa using this
   ·rename_i hdr _
    exact Sem.weakS hw (q088 hdr rfl rfl h)
 | regL l =>
   intro Q S h H code hc
   unfold trC at hc
   split at hc <;> (try split at hc) <;> (try split at hc) <;> (try cases hc)
   refine Sem.region (fun o ho => q081 (q0vx ‹trR P n _ _ = some _› o ho)) ?_
   have := q0ni (K := Q .normal) _ 0 _ S rfl ‹trR P n _ _ = some _› h
   rw [List.range_eq_range']
   simpa using this
 | rng g ps a b iha ihb => intro Q S h; exact h

theorem SemC.loop {σ : Type} {c : CC} {Q : Exit -> St -> Prop} (mk : σ -> St) (Inv : σ -> Prop) (μ : σ -> Nat) (s0 : σ) (h0 : Weak n S (mk s0)) (hi : Inv s0)
  (round : ∀ s, Inv s -> cW P n c (q0j1 n mk Inv μ (μ s) Q) (mk s)) : SemC P n (.loop c) Q S := by
 intro H code hc
 unfold trC at hc
 split at hc <;> (try split at hc) <;> (try split at hc) <;> (try cases hc)
 rename_i x hx
 exact Sem.loop mk Inv μ s0 h0 hi fun s hs => q031 _ _ _ (round s hs) _ _ hx

def retP (P : Program) (rvs : List ResultVar) (k : Nat) (Q : List T -> T -> Prop) : Exit -> St -> Prop
 | .normal, S => retL P S rvs fun ts S' => q0pz S' k 1000000000 fun rout => Q rout (q0nl ts)
 | .ret, S => retL P S rvs fun ts S' => q0pz S' k 1000000000 fun rout => Q rout (q0nl ts)
 | _, _ => False
theorem q0q1 : ∀ (k i : Nat) {S : St} {K K' : List T -> Prop}, (∀ l, K l -> K' l) -> q0pz S k i K -> q0pz S k i K'
 | 0, i, S, K, K', h, hh => h _ hh
 | k + 1, i, S, K, K', h, hh => by
   simp only [q0pz] at hh ⊢
   split at hh
   ·exact q0q1 k (i + 1) (fun l hl => h _ hl) hh
   ·exact q0q1 k (i + 1) (fun l hl => h _ hl) hh
   ·exact hh.elim
mutual
theorem q0d6 : ∀ (a : A) {S : St} {K K' : T -> St -> Prop}, (∀ t S', K t S' -> K' t S') -> q0d0 S a K -> q0d0 S a K'
 | .t c, S, K, K', h, hh => by unfold q0d0 at hh ⊢; exact h _ _ hh
 | .own q, S, K, K', h, hh => by
   unfold q0d0 at hh ⊢
   split at hh
   ·exact h _ _ hh
   ·exact hh.elim
 | .agg l, S, K, K', h, hh => by unfold q0d0 at hh ⊢; exact q0d3 l (fun t S' => h _ S') hh
 | .tup l, S, K, K', h, hh => by unfold q0d0 at hh ⊢; exact q0d3 l (fun t S' => h _ S') hh
 | .sub _ _ _, S, K, K', h, hh => by unfold q0d0 at hh; exact hh.elim
 | .ptr _ _, S, K, K', h, hh => by unfold q0d0 at hh; exact hh.elim
 | .fn _ _, S, K, K', h, hh => by
   unfold q0d0 at hh ⊢
   split at hh
   ·exact h _ _ hh
   ·exact hh.elim
theorem q0d3 : ∀ (l : List A) {S : St} {K K' : List T -> St -> Prop}, (∀ t S', K t S' -> K' t S') -> q0d1 S l K -> q0d1 S l K'
 | [], S, K, K', h, hh => by unfold q0d1 at hh ⊢; exact h _ _ hh
 | a :: l, S, K, K', h, hh => by
   unfold q0d1 at hh ⊢
   exact q0d6 a (fun t S' h1 => q0d3 l (fun ts S'' h2 => h _ _ h2) h1) hh
end
theorem q0pl {rv : ResultVar} {K K' : T -> St -> Prop} (h : ∀ t S', K t S' -> K' t S') (hh : q0pj P S rv K) : q0pj P S rv K' := by
 unfold q0pj at hh ⊢
 cases rv with
 | tmp t => exact q0d6 _ h hh
 | cell t ty =>
   simp only at hh ⊢
   cases he : S.env t <;> simp only [he] at hh ⊢
   rename_i q
   generalize S.roots q = r at hh ⊢
   split at hh
   ·split at hh
    ·exact ⟨hh.1, h _ _ hh.2⟩
    ·split at hh
     ·exact h _ _ hh
     ·exact hh.elim
    ·exact hh.elim
   ·exact hh.elim
theorem q0ph : ∀ (l : List ResultVar) {S : St} {K K' : List T -> St -> Prop}, (∀ t S', K t S' -> K' t S') -> retL P S l K -> retL P S l K'
 | [], S, K, K', h, hh => by unfold retL at hh ⊢; exact h _ _ hh
 | a :: l, S, K, K', h, hh => by
   unfold retL at hh ⊢
   exact q0pl (fun t S' h1 => q0ph l (fun ts S'' h2 => h _ _ h2) h1) hh

def sl (n : Nat) : Operand := .tmp n
def ci (n : Int) : Operand := .const (.int .i64 n)
def cb (b : Bool) : Operand := .const (.bool b)
def cv (v : Value) : Operand := .const v
def cf (f : Nat) : Operand := .func f
theorem q08n (S : St) (n : Nat) : S.ev (sl n) = S.env n := rfl
theorem q08l (S : St) (n : Int) : S.ev (ci n) = .t (.v (.int .i64 n)) := rfl
theorem q08j (S : St) (b : Bool) : S.ev (cb b) = .t (.v (.bool b)) := rfl
theorem q08m (S : St) (v : Value) : S.ev (cv v) = .t (.v v) := rfl
theorem q08k (S : St) (f : Nat) : S.ev (cf f) = .fn f [] := rfl

theorem Fun.of {H : Hints} {f : FuncId} {fn : Func} {code : Code} {c : CC} {rin : List T} {args : List A} {Q : List T -> T -> Prop} (hf : P.funcs[f]? = some fn) (hb : fn.body = some code) (hn : fn.ntmps = n) {rv : List ResultVar} (hrv : fn.results.toList = rv) (hc : trC P n H code = some c) (ha : args.length <= n) (hsm : n <= 100000)
  (h : cW P n c (retP P rv rin.length Q) (St.of (enum 0 args) (enum 1000000000 rin))) : Fun P f rin args Q :=
 Fun.intro hf hb hn ha hsm ((q031 _ _ _ h _ _ hc).mono fun e S' q => by
  subst hrv
  have key : retP P fn.results.toList rin.length Q .ret S' -> retQ P fn.results.toList rin.length Q .ret S' := fun q => by
   simp only [retP, retQ] at q ⊢
   exact q0ph _ (fun ts S'' h1 => q0q1 _ _ (fun rout h2 => ⟨_, .refl _, h2⟩) h1) q
  cases e with
  | normal => exact key q
  | ret => exact key q
  | _ => exact q.elim)

theorem q006.use {d : Option Nat} {fo : Operand} {as : List Operand} {K : St -> Prop} {f : FuncId} {cap : List A} (hfo : fnA (S.ev fo) = some (f, cap)) (hcall : ∀ args w, (callFunc f args).run P w = .ok (.enter f args) w) {rin : List T} {args : List A} {Q : List T -> T -> Prop} (hF : Fun P f rin args Q)
  (srcs bor : List Nat) (hsn : srcs.Nodup) (hsrc : q0tg S srcs rin) (hsb : ∀ q ∈ bor, q ∉ srcs) (hargs : vaL S srcs bor args (as.map S.ev ++ cap))
  (hk : ∀ rout res, Q rout res -> (bor = [] ∨ (res.noSh /\ T.noShL rout)) /\ q00p S d srcs rout res K) : q006 P n d fo as K S := by
 intro o ts ho hd hdn
 subst hd
 exact OpW.call ho hdn hfo hcall hF srcs bor hsn hsrc hsb (by simpa using hargs) hk

theorem q006.pure {d : Nat} {fo : Operand} {as : List Operand} {K : St -> Prop} {f : FuncId} {cap : List A} {args : List T} {res : T} {x : A} (hF : Pure P f args res) (bor : List Nat) (hfo : fnA (S.ev fo) = some (f, cap)) (hcall : ∀ args w, (callFunc f args).run P w = .ok (.enter f args) w)
  (hargs : vaL S [] bor (args.map A.t) (as.map S.ev ++ cap)) (hns : res.noSh) (hx : absT d 0 res = (x, [], 0)) (hk : K { S with env := upd S.env d x }) : q006 P n (some d) fo as K S := by
 refine q006.use hfo hcall hF [] bor (by simp) trivial (fun q _ => by simp) hargs fun rout res' h => ?_
 obtain ⟨rfl, rfl⟩ := h
 refine ⟨.inr ⟨hns, trivial⟩, ?_⟩
 simp only [q00p, hx]
 exact ⟨trivial, by simp, hk⟩
theorem SemC.loopR {σ : Type} {c : CC} {Q : Exit -> St -> Prop} (mk : σ -> St) (Inv : σ -> Prop) (μ : σ -> Nat) (s0 : σ) (h0 : Weak n S (mk s0)) (hi : Inv s0)
  (round : ∀ s, Inv s -> ∀ R : Exit -> St -> Prop, (∀ S' s', Weak n S' (mk s') -> Inv s' -> μ s' < μ s -> R .normal S') -> (∀ S', Q .ret S' -> R .ret S') -> (∀ i S', Q (.exit i) S' -> R (.exit i) S') -> cW P n c R (mk s)) : SemC P n (.loop c) Q S :=
 SemC.loop mk Inv μ s0 h0 hi fun s hs => round s hs _ (fun S' s' h1 h2 h3 => ⟨s', h1, h2, h3⟩) (fun _ h => h) (fun _ _ h => h)

theorem q004.pure {fo : Operand} {as : List Operand} {ρ : Operand -> A} {R : Nat -> Root} {K : A -> Prop} {f : FuncId} {cap : List A} {args : List T} {res : T} (hF : Pure P f args res) (bor : List Nat) (hfo : fnA (ρ fo) = some (f, cap)) (hcall : ∀ args w, (callFunc f args).run P w = .ok (.enter f args) w)
  (hargs : ∀ e R', (∀ r, R r = .free ∨ R' r = R r) -> vaL ⟨e, R'⟩ [] bor (args.map A.t) (as.map ρ ++ cap)) (hns : res.noSh) (hx : ∀ d, absT d 0 res = ((absT 0 0 res).1, [], 0)) (hk : K (absT 0 0 res).1) : q004 P n fo as ρ R K := by
 refine ⟨_, hk, fun d e R' Kc h1 h2 h3 => ?_⟩
 refine q006.pure hF bor (by rw [h2 fo (by simp)]; exact hfo) hcall ?_ hns (hx d) h3
 have : as.map (St.ev ⟨e, R'⟩) = as.map ρ := List.map_congr_left fun y hy => h2 y (by simp [hy])
 rw [this]
 exact hargs e R' h1

theorem q00h : ∀ (t : T) (d k : Nat), k <= (absT d k t).2.2 /\ ∀ p ∈ (absT d k t).2.1, ∃ j, j < (absT d k t).2.2 /\ p.1 = rid d j := by
 intro t d k
 have single : ∀ (x : T), k <= k + 1 /\ ∀ p ∈ [(rid d k, x)], ∃ j, j < k + 1 /\ p.1 = rid d j := fun x => ⟨by omega, fun p hp => ⟨k, by omega, by simp at hp; rw [hp]⟩⟩
 exact absT_count' t d k
where
 absT_count' (t : T) (d k : Nat) : k <= (absT d k t).2.2 /\ ∀ p ∈ (absT d k t).2.1, ∃ j, j < (absT d k t).2.2 /\ p.1 = rid d j := by
  cases t with
  | arr s l => exact ⟨by simp [absT], fun p hp => ⟨k, by simp [absT], by simp [absT] at hp; rw [hp]⟩⟩
  | box l => exact ⟨by simp [absT], fun p hp => ⟨k, by simp [absT], by simp [absT] at hp; rw [hp]⟩⟩
  | bld _ _ _ => exact ⟨by simp [absT], fun p hp => ⟨k, by simp [absT], by simp [absT] at hp; rw [hp]⟩⟩
  | agg l => have := absL_count l d k; simpa only [absT] using this
  | tup l => have := absL_count l d k; simpa only [absT] using this
  | _ => exact ⟨by simp [absT], fun p hp => by simp [absT] at hp⟩
 absL_count (l : List T) (d k : Nat) : k <= (absL d k l).2.2 /\ ∀ p ∈ (absL d k l).2.1, ∃ j, j < (absL d k l).2.2 /\ p.1 = rid d j := by
  cases l with
  | nil => exact ⟨by simp [absL], fun p hp => by simp [absL] at hp⟩
  | cons t l =>
    obtain ⟨h1, h2⟩ := absT_count' t d k
    obtain ⟨h3, h4⟩ := absL_count l d (absT d k t).2.2
    simp only [absL]
    refine ⟨by omega, fun p hp => ?_⟩
    rcases List.mem_append.1 hp with hp | hp
    ·obtain ⟨j, hj, e⟩ := h2 p hp; exact ⟨j, by omega, e⟩
    ·exact h4 p hp
theorem q0po {d j : Nat} (h : j < 1000) : q0e0 d (rid d j) := by
 unfold rid
 split
 ·exact .inl rfl
 ·right; omega

def newR (l : List (Nat × T)) : List (Nat × Root) := (l.map fun p => (p.1, Root.live p.2 [])).reverse
theorem q013 (D : List (Nat × Root)) (p : Nat × Root) (R : Nat -> Root) : apR (D ++ [p]) R = upd (apR D R) p.1 p.2 := by simp [apR, List.foldl_append]
theorem q0l8 : ∀ (l : List (Nat × T)) (R : Nat -> Root), apR (newR l) R = updL R l
 | [], R => rfl
 | (j, t) :: l, R => by
   have := q0l8 l R
   simp only [newR, List.map_cons, List.reverse_cons] at this ⊢
   rw [q013, this]; rfl
theorem q0l9 (l : List (Nat × T)) (r : Nat) : r ∈ q0h4 (newR l) ↔ ∃ p ∈ l, p.1 = r := by
 simp [q0h4, newR]
def srcR : List Nat -> List T -> List (Nat × Root)
 | q :: qs, t :: ts => srcR qs ts ++ [(q, rootOf t)]
 | _, _ => []
theorem q0tb : ∀ (qs : List Nat) (ts : List T) (R : Nat -> Root), apR (srcR qs ts) R = updS R qs ts
 | [], _, R => by simp [srcR, updS, apR]
 | _ :: _, [], R => by simp [srcR, updS, apR]
 | q :: qs, t :: ts, R => by rw [srcR, q013, q0tb qs ts R]; rfl
theorem q0tc : ∀ (qs : List Nat) (ts : List T) (r : Nat), r ∈ q0h4 (srcR qs ts) -> r ∈ qs
 | [], _, r, h => by simp [srcR, q0h4] at h
 | _ :: _, [], r, h => by simp [srcR, q0h4] at h
 | q :: qs, t :: ts, r, h => by
   simp only [srcR, q0h4, List.map_append, List.mem_append, List.map_cons, List.map_nil, List.mem_singleton] at h
   rcases h with h | h
   ·exact List.mem_cons_of_mem _ (q0tc qs ts r h)
   ·rw [h]; simp
theorem q09x : ∀ {l : List (Nat × T)} {S : St}, q09w S l ↔ ∀ p ∈ l, S.roots p.1 = .free
 | [], S => by simp [q09w]
 | (j, t) :: l, S => by simp [q09w, q09x (l := l)]
theorem q0ti : ∀ {qs : List Nat} {ts : List T} {S : St}, q0tg S qs ts -> (∀ q ∈ qs, S.roots q ≠ .free) /\ ∀ S' : St, (∀ q ∈ qs, S'.roots q = S.roots q) -> q0tg S' qs ts
 | [], [], S, _ => ⟨by simp, fun _ _ => trivial⟩
 | [], _ :: _, S, h => h.elim
 | _ :: _, [], S, h => h.elim
 | q :: qs, t :: ts, S, h => by
   obtain ⟨h1, h2⟩ := q0ti h.2
   refine ⟨fun r hr => ?_, fun S' hS => ⟨(hS q (by simp)).trans h.1, h2 S' fun r hr => hS r (by simp [hr])⟩⟩
   rcases List.mem_cons.1 hr with rfl | hr
   ·rw [h.1]; intro h; cases h
   ·exact h1 r hr

theorem evm (S : St) (R : Nat -> Root) (y : Operand) : St.ev ⟨S.env, R⟩ y = S.ev y := by cases y <;> rfl

theorem q000.res {d : Nat} {fo : Operand} {ops : List Operand} {m : List Nat} {K : St -> Prop} {f : FuncId} {cap : List A} {args : List A} {res : T} (hF : Fun P f [] args fun o r => o = [] /\ r = res) (bor : List Nat) (hfo : fnA (S.ev fo) = some (f, cap)) (hcall : ∀ args w, (callFunc f args).run P w = .ok (.enter f args) w)
  (hargs : ∀ e R', (∀ r, q0ji m S.roots r = .free ∨ R' r = q0ji m S.roots r) -> vaL ⟨e, R'⟩ [] bor args (ops.map S.ev ++ cap)) (hns : bor = [] ∨ res.noSh) (hk : q00p S (some d) [] [] res K) : q000 P n d fo ops m K S := by
 obtain ⟨hfree, hcnt, hk⟩ := hk
 have hids : ∀ r ∈ q0h4 (newR (absT d 0 res).2.1), q0e0 d r := fun r hr => by
  obtain ⟨p, hp, rfl⟩ := (q0l9 _ r).1 hr
  obtain ⟨j, hj, e⟩ := (q00h res d 0).2 p hp
  rw [e]; exact q0po (by omega)
 refine ⟨(absT d 0 res).1, newR (absT d 0 res).2.1, hids, by rw [q0l8]; exact hk, fun r hr => .inr ⟨d, rfl, hids r hr⟩, fun e R Kc hr hR hf hKc => ?_⟩
 have hev : ∀ y ∈ fo :: ops, St.ev ⟨e, R⟩ y = S.ev y := fun y hy => (hr y (List.mem_cons_of_mem _ hy)).trans (evm S _ y)
 refine q006.use (by rw [hev fo (by simp)]; exact hfo) hcall hF [] bor (by simp) trivial (fun q _ => by simp) ?_ fun rout res' h => ?_
 ·have : ops.map (St.ev ⟨e, R⟩) = ops.map S.ev := List.map_congr_left fun y hy => hev y (by simp [hy])
  rw [this]; exact hargs e R hR
 ·obtain ⟨rfl, rfl⟩ := h
  refine ⟨hns.imp id fun h => ⟨h, trivial⟩, q09x.2 fun p hp => hf p.1 ((q0l9 _ _).2 ⟨p, hp, rfl⟩) ?_, hcnt, by rw [q0l8] at hKc; exact hKc⟩
  rcases q0jl m S.roots p.1 with h | h
  ·exact h
  ·exact h.symm.trans (q09x.1 hfree p hp)

theorem q002.ref {d : Option Nat} {fo : Operand} {ops : List Operand} {K : St -> Prop} {f : FuncId} {cap : List A} {rin : List T} {args : List A} {rout : List T} {res : T} (hF : Fun P f rin args fun o r => o = rout /\ r = res) (srcs bor : List Nat) (hfo : fnA (S.ev fo) = some (f, cap)) (hcall : ∀ args w, (callFunc f args).run P w = .ok (.enter f args) w)
  (hsn : srcs.Nodup) (hsrc : q0tg S srcs rin) (hsb : ∀ q ∈ bor, q ∉ srcs) (hargs : ∀ e R', (∀ r, S.roots r = .free ∨ R' r = S.roots r) -> vaL ⟨e, R'⟩ srcs bor args (ops.map S.ev ++ cap)) (hns : bor = [] ∨ (res.noSh /\ T.noShL rout)) (hk : q00p S d srcs rout res K) : q002 P n d fo ops K S := by
 obtain ⟨hne, hmove⟩ := q0ti hsrc
 cases d with
 | none =>
   refine ⟨.t .any, srcR srcs rout, by rw [q0tb]; exact hk, fun r hr => .inl (hne r (q0tc _ _ r hr)), fun e R Kc hr hR hf hKc => ?_⟩
   have hev : ∀ y ∈ fo :: ops, St.ev ⟨e, R⟩ y = S.ev y := fun y hy => (hr y (List.mem_cons_of_mem _ hy)).trans (evm S _ y)
   refine q006.use (by rw [hev fo (by simp)]; exact hfo) hcall hF srcs bor hsn (hmove _ fun q hq => (hR q).resolve_left (hne q hq)) hsb ?_ fun rout' res' h => ?_
   ·have : ops.map (St.ev ⟨e, R⟩) = ops.map S.ev := List.map_congr_left fun y hy => hev y (by simp [hy])
    rw [this]; exact hargs e R hR
   ·obtain ⟨rfl, rfl⟩ := h
    exact ⟨hns, by rw [q0tb] at hKc; exact hKc⟩
 | some d =>
   obtain ⟨hfree, hcnt, hk⟩ := hk
   have hids : ∀ r ∈ q0h4 (newR (absT d 0 res).2.1), q0e0 d r := fun r hr => by
    obtain ⟨p, hp, rfl⟩ := (q0l9 _ r).1 hr
    obtain ⟨j, hj, e⟩ := (q00h res d 0).2 p hp
    rw [e]; exact q0po (by omega)
   refine ⟨(absT d 0 res).1, srcR srcs rout ++ newR (absT d 0 res).2.1, by rw [q00z, q0tb, q0l8]; exact hk, fun r hr => ?_, fun e R Kc hr hR hf hKc => ?_⟩
   ·rw [q0h4, List.map_append, List.mem_append] at hr
    rcases hr with hr | hr
    ·exact .inl (hne r (q0tc _ _ r hr))
    ·exact .inr ⟨d, rfl, hids r hr⟩
   ·have hev : ∀ y ∈ fo :: ops, St.ev ⟨e, R⟩ y = S.ev y := fun y hy => (hr y (List.mem_cons_of_mem _ hy)).trans (evm S _ y)
    refine q006.use (by rw [hev fo (by simp)]; exact hfo) hcall hF srcs bor hsn (hmove _ fun q hq => (hR q).resolve_left (hne q hq)) hsb ?_ fun rout' res' h => ?_
    ·have : ops.map (St.ev ⟨e, R⟩) = ops.map S.ev := List.map_congr_left fun y hy => hev y (by simp [hy])
     rw [this]; exact hargs e R hR
    ·obtain ⟨rfl, rfl⟩ := h
     refine ⟨hns, q09x.2 fun p hp => hf p.1 ?_ (q09x.1 hfree p hp), hcnt, by rw [q00z, q0tb, q0l8] at hKc; exact hKc⟩
     rw [q0h4, List.map_append, List.mem_append]
     exact .inr ((q0l9 _ _).2 ⟨p, hp, rfl⟩)

theorem q0jp (m : List Nat) (R : Nat -> Root) (i : Nat) (x : Root) : q0ji m (upd R i x) = if m.any (fun d => decide (i = d) || decide (i / 1000 = d + 1)) then q0ji m R else upd (q0ji m R) i x := by
 funext r
 by_cases hr : r = i
 ·subst hr
  split
  ·rename_i h; simp only [q0ji, h, if_true]
  ·rename_i h; rw [q0x2]; simp only [q0ji]; rw [if_neg h, q0x2]
 ·split
  ·simp only [q0ji, q0x1 _ _ _ _ hr]
  ·rw [q0x1 _ _ _ _ hr]; simp only [q0ji, q0x1 _ _ _ _ hr]
theorem q0jj (m : List Nat) : q0ji m (fun _ => Root.free) = fun _ => Root.free := by
 funext r; simp [q0ji]
theorem q07b (P : Program) (n z : Nat) (x v : Operand) (K : St -> Prop) (S : St) : coH P n (.store z x v) K S = coW P n (.store z x v) K S := rfl
theorem q071 (P : Program) (n d : Nat) (zs : List T) (K : St -> Prop) (S : St) : coH P n (.alloc d zs) K S = coW P n (.alloc d zs) K S := rfl
theorem q073 (P : Program) (n d : Nat) (x : Operand) (K : St -> Prop) (S : St) : coH P n (.box d x) K S = coW P n (.box d x) K S := rfl
theorem q074 (P : Program) (n d z len : Nat) (ps : List (Nat × Operand)) (K : St -> Prop) (S : St) : coH P n (.bslice d z len ps) K S = coW P n (.bslice d z len ps) K S := rfl
theorem q07a (P : Program) (n d : Nat) (zs : List T) (eb : Nat) (l c : Operand) (K : St -> Prop) (S : St) : coH P n (.make d zs eb l c) K S = coW P n (.make d zs eb l c) K S := rfl
theorem q072 (P : Program) (n d z eb : Nat) (b x : Operand) (K : St -> Prop) (S : St) : coH P n (.app d z eb b x) K S = coW P n (.app d z eb b x) K S := rfl
theorem q079 (P : Program) (n d : Nat) (x : Operand) (K : St -> Prop) (S : St) : coH P n (.load1 d x) K S = coW P n (.load1 d x) K S := rfl
theorem q075 (P : Program) (n : Nat) (d : Option Nat) (f : Operand) (as : List Operand) (K : St -> Prop) (S : St) : coH P n (.call d f as) K S = q002 P n d f as K S := rfl

theorem q0up (K : St -> Prop) (Q : Exit -> St -> Prop) (S : St) : q0um K Q .normal S = K S := rfl
theorem q0uq (K : St -> Prop) (Q : Exit -> St -> Prop) (S : St) : q0um K Q .ret S = Q .ret S := rfl
theorem q0uo (K : St -> Prop) (Q : Exit -> St -> Prop) (S : St) (i : Nat) : q0um K Q (.exit i) S = Q (.exit i) S := rfl
theorem q02b (i : Nat) (Q : Exit -> St -> Prop) (S : St) : q028 i Q .normal S = Q .normal S := rfl
theorem q02c (i : Nat) (Q : Exit -> St -> Prop) (S : St) : q028 i Q .ret S = Q .ret S := rfl
theorem q02a (i j : Nat) (Q : Exit -> St -> Prop) (S : St) : q028 i Q (.exit j) S = if j = i then Q .normal S else Q (.exit j) S := rfl
theorem q0j3 {σ : Type} (n : Nat) (mk : σ -> St) (Inv : σ -> Prop) (μ : σ -> Nat) (m : Nat) (Q : Exit -> St -> Prop) (S : St) : q0j1 n mk Inv μ m Q .normal S = ∃ s', Weak n S (mk s') /\ Inv s' /\ μ s' < m := rfl
theorem q0j4 {σ : Type} (n : Nat) (mk : σ -> St) (Inv : σ -> Prop) (μ : σ -> Nat) (m : Nat) (Q : Exit -> St -> Prop) (S : St) : q0j1 n mk Inv μ m Q .ret S = Q .ret S := rfl
theorem q0j2 {σ : Type} (n : Nat) (mk : σ -> St) (Inv : σ -> Prop) (μ : σ -> Nat) (m : Nat) (Q : Exit -> St -> Prop) (S : St) (i : Nat) : q0j1 n mk Inv μ m Q (.exit i) S = Q (.exit i) S := rfl
theorem q0tn (r off z : Nat) (K : St -> Prop) (ts : List T) (S : St) : q0tm r off z K ts S = match (S.roots r).cells with
 | some (l, lk) => 0 < z /\ off + z <= l.length /\ K { S with roots := upd S.roots r ((S.roots r).with (spl l off ts) (lk.filter fun p => p.1 < off || off + z <= p.1)) }
 | none => False := rfl
theorem q015 (x : A) (d z eb : Nat) (K : St -> Prop) (olds : List T) (S : St) : q014 x d z eb K olds S = srcW S x z (q017 d z eb K olds) := rfl
theorem q018 (d z eb : Nat) (K : St -> Prop) (olds news : List T) (S : St) : q017 d z eb K olds news S = ((olds.length + news.length) * eb <= z * 140737488355328 /\ newK d (.arr z) K (olds ++ news) S) := rfl
end
end Go.Ab

/- The abstract layer, part 28: links between roots at the head of a loop; roots that are given away as data that is only read. -/
namespace Go.Ab

theorem Weak.refl (n : Nat) (S : St) : Weak n S S := fun X w0 O0 a w hs fp g => ⟨hs, fp, g⟩
theorem Weak.trans {n : Nat} {S S1 S2 : St} (h : Weak n S S1) (h' : Weak n S1 S2) : Weak n S S2 := fun X w0 O0 a w hs fp g => by
 obtain ⟨hs1, fp1, g1⟩ := h X w0 O0 a w hs fp g
 exact h' X w0 O0 a w hs1 fp1 g1

theorem Weak.open {n : Nat} {S : St} (r o d : Nat) {l : List T} {lk : List (Nat × Nat)} {c : T} (h : (S.roots r).cells = some (l, lk)) (hc : l[o]? = some c) (hd : S.roots d = .free) (hdn : d < 1000000000) (hrt : c.rooty = true) :
  Weak n S { S with roots := upd (upd S.roots r ((S.roots r).with (l.set o .any) ((o, d) :: lk))) d (.live c []) } := fun X w0 O0 a w hs fp g => by
 obtain ⟨hs', fp', v, g', _⟩ := g.unfold h hc hd hdn hrt
 exact ⟨hs', fp', g'⟩
def q0rg (q : Nat) (t : T) : A -> A
 | .own q' => if q' = q then .t t.toSh else .own q'
 | a => a
theorem Weak.share {n : Nat} {S : St} (q : Nat) {t : T} (hq : S.roots q = .live t []) : Weak n S ⟨fun i => q0rg q t (S.env i), upd S.roots q .dead⟩ := by
 intro X w0 O0 a w hs fp g
 have hroot := g.root q
 rw [hq] at hroot
 obtain ⟨x, hx, ho, _⟩ := hroot
 have hsub : ∀ r b, b ∈ upd fp q [] r -> r ≠ q /\ b ∈ fp r := fun r b hb => by
  by_cases hr : r = q
  ·subst hr; rw [q0x2] at hb; simp at hb
  ·rw [q0x1 _ _ _ _ hr] at hb; exact ⟨hr, hb⟩
 have hO : ∀ b, ¬ Ob X fp b -> b < w.heap.size -> ¬ Ob X (upd fp q []) b := fun b h _ h' => by
  rcases h' with h' | ⟨r, hr⟩
  ·exact h (.inl h')
  ·exact h (.inr ⟨r, (hsub r b hr).2⟩)
 have hk : ∀ p, q009 p w w := fun p _ _ _ _ _ h => h
 have hq0 : ∀ b ∈ fp q, ¬ Ob X (upd fp q []) b := fun b hb h => by
  rcases h with h | ⟨r, hr⟩
  ·exact g.foreign q b hb h
  ·obtain ⟨h1, h2⟩ := hsub r b hr; exact h1 (g.disj r q b h2 hb)
 refine ⟨hs, upd fp q [], g.size, g.defers, fun i => ?_, fun r => ?_, fun r r' b h h' => g.disj r r' b (hsub r b h).2 (hsub r' b h').2, fun r => ?_, fun r b h => g.foreign r b (hsub r b h).2, g.xold, g.xout, fun r b h => g.mine r b (hsub r b h).2, g.hist, fun r t lk h => ?_, g.hdr, g.small, g.pin⟩
 ·have hi := g.env i
  show Is w (Ob X (upd fp q [])) hs (q0rg q t (S.env i)) _
  generalize S.env i = y at hi
  cases y with
  | own q' =>
    simp only [q0rg]
    split
    ·rename_i he
     subst he
     have := hi.own_inv
     rw [hx, Option.some.injEq] at this
     rw [← this]
     exact .t (ho.toSh hO hq0)
    ·exact hi.mono (hk _) hO (fun _ _ h => h)
  | _ => exact hi.mono (hk _) hO (fun _ _ h => h)
 ·by_cases hr : r = q
  ·subst hr
   show q00d w _ hs (upd S.roots r .dead r) (hs r) (upd fp r [] r)
   rw [q0x2, q0x2]; rfl
  ·show q00d w _ hs (upd S.roots q .dead r) (hs r) (upd fp q [] r)
   rw [q0x1 _ _ _ _ hr, q0x1 _ _ _ _ hr]
   exact g.keepRoot r (hk _) hO (fun _ _ h => h) rfl (fun b _ => rfl)
 ·by_cases hr : r = q
  ·subst hr; rw [q0x2]; simp
  ·rw [q0x1 _ _ _ _ hr]; exact g.nodup r
 ·have h : upd S.roots q .dead r = .live t lk := h
  by_cases hr : r = q
  ·subst hr; rw [q0x2] at h; cases h
  ·rw [q0x1 _ _ _ _ hr] at h; exact g.rooty r t lk h

theorem Weak.join (P : Program) {n : Nat} {S S1 : St} {ty : TypeId} (hz : q0wn P ty = some 1) (x v : Operand) {r off d : Nat} {l : List T} {lk : List (Nat × Nat)} (hx : q00n S (S.ev x) = some (r, off)) (hv : S.ev v = .own d)
  (hr : (S.roots r).cells = some (l, lk)) (hol : off < l.length) (hlk : (off, d) ∈ lk) (k : q0tk 1 (S.ev x) (S.ev v) (fun S' => S' = S1) S) : Weak n S S1 := by
 intro X w0 O0 a w hs fp g
 obtain ⟨b, y, cs, e, fps, hy, hyb, hb, hle, hf, hrr, hfp, hl, _⟩ := g.block hr hol
 have hxv := g.addr hx (g.ev x) b y hy hyb
 obtain ⟨u, hu1, hu2⟩ := hl _ hlk
 have hvv : a.eval v = u := by
  have h1 := g.ev v; rw [hv] at h1
  have h2 := h1.own_inv
  rw [hu2] at h2; exact (Option.some.inj h2).symm
 have hone : u.oneCell' = true := g.hdr _ _ hu2
 let o : Oper := { (default : Oper) with op := .store ty x v, dst := none }
 have hw := q0na (P := P) (o := o) (n := n) (S := S) (K := fun S' => S' = S1) rfl rfl (by
  unfold q0tq
  unfold q0tk at k
  split at k
  ·rename_i h1 h2; rw [h1, hz, h2]; exact k
  ·exact k.elim) X w0 O0 a w hs fp g fun _ _ _ => False
 have hcell : cs[off]? = some u := by
  simp only [World.cell?, hb] at hu1
  simpa using hu1
 have hcs : u.cells = #[u] := cells_one hone
 have hrun : (execOp a.eval o).run P w = .ok .skip w := by
  have hst := run_storeCells_at P b off e [u] 0 cs w hb (by simp; have := (Array.getElem?_eq_some_iff.1 hcell).1; omega) (by simpa using hone)
  have hrow : (cs.toList.take (off + 0) ++ [u] ++ cs.toList.drop (off + 0 + [u].length)).toArray = cs := by
   have hlt : off < cs.toList.length := by simpa using (Array.getElem?_eq_some_iff.1 hcell).1
   have hg : cs.toList[off] = u := by
    have := (Array.getElem?_eq_some_iff.1 hcell).2
    simpa using this
   have h1 : cs.toList.take off ++ [u] ++ cs.toList.drop (off + 1) = cs.toList := by
    rw [← hg, List.append_assoc, List.singleton_append, ← List.drop_eq_getElem_cons hlt, List.take_append_drop]
   rw [Nat.add_zero, show [u].length = 1 from rfl, h1, Array.toArray_toList]
  rw [hrow, setRow_self w b cs e (0, 0) hb] at hst
  have hzr := q0wo hz w
  simp only [o, execOp, Instr.storeAt, hxv, hvv, hcs, Instr.sureAddr, storeVar, Sem.run_bind, Sem.run_pure, Result.andThen_ok, hzr, ne_eq, List.size_toArray, List.length_cons, List.length_nil, Nat.zero_add, not_true_eq_false, if_false]
  rw [hst]
  rfl
 unfold Oper.wp at hw
 rw [hrun, Oper.upon_skip] at hw
 obtain ⟨S', hs', fp', g', rfl⟩ := hw
 exact ⟨hs', fp', by
  have e : a.put o.dst undef = a := rfl
  rw [e] at g'; exact g'⟩
theorem Weak.join2 (P : Program) {n : Nat} {S : St} {ty : TypeId} (hz : q0wn P ty = some 1) (x v : Operand) {r off d : Nat} {t : T} {l : List T} (hx : q00n S (S.ev x) = some (r, off)) (hv : S.ev v = .own d)
  (hd : S.roots d = .live t []) (hr : (S.roots r).cells = some (l, [(off, d)])) (hne : r ≠ d) (hol : off < l.length) :
  Weak n S { S with roots := upd (upd S.roots d .dead) r ((S.roots r).with (spl l off [t]) []) } := by
 refine Weak.join P hz x v hx hv hr hol (by simp) ?_
 unfold q0tk
 rw [hx, hv]
 simp only [q07j, q0cw, q0d8, hd, q0tm, q0x1 _ _ _ _ hne, hr, List.length_cons, List.length_nil]
 refine ⟨trivial, by omega, by omega, ?_⟩
 rw [List.filter_cons_of_neg (by simp), List.filter_nil]
end Go.Ab

/- The abstract layer, part 29: calls whose result is not determined, but of a known shape. -/
namespace Go.Ab

section
variable {P : Program} {n : Nat} {S : St}
theorem q006.exi {α : Type} {F : α -> T} {G : α -> List T} {Φ : α -> Prop} {d : Option Nat} {fo : Operand} {ops : List Operand} {K : St -> Prop} {f : FuncId} {cap : List A} {rin : List T} {args : List A} (hF : Fun P f rin args fun o r => ∃ x, o = G x /\ r = F x /\ Φ x) (srcs bor : List Nat) (hfo : fnA (S.ev fo) = some (f, cap)) (hcall : ∀ args w, (callFunc f args).run P w = .ok (.enter f args) w)
  (hsn : srcs.Nodup) (hsrc : q0tg S srcs rin) (hsb : ∀ q ∈ bor, q ∉ srcs) (hargs : vaL S srcs bor args (ops.map S.ev ++ cap)) (hns : bor = [] ∨ ∀ x, (F x).noSh /\ T.noShL (G x)) (hk : ∀ x, Φ x -> q00p S d srcs (G x) (F x) K) : q006 P n d fo ops K S := by
 refine q006.use hfo hcall hF srcs bor hsn hsrc hsb hargs fun rout res h => ?_
 obtain ⟨x, rfl, rfl, hx⟩ := h
 refine ⟨?_, hk x hx⟩
 rcases hns with h | h
 ·exact .inl h
 ·exact .inr (h x)
end
end Go.Ab

/- The abstract layer, part 30: rules that keep the simplifier out of continuations (printed by congr.py). -/
namespace Go.Ab

@[congr] theorem q0ng {a0 : _} {a1 : _} {a2 : _} {a3 : _} {a4 : _} {a4' : _} (h4 : a4 = a4') : opsW a0 a1 a2 a3 a4 = opsW a0 a1 a2 a3 a4' := by subst_vars; rfl
@[congr] theorem q07i {a0 : _} {a1 : _} {a2 : _} {a3 : _} {a4 : _} {a4' : _} (h4 : a4 = a4') : coW a0 a1 a2 a3 a4 = coW a0 a1 a2 a3 a4' := by subst_vars; rfl
@[congr] theorem q030 {a0 : _} {a1 : _} {a2 : _} {a3 : _} {a4 : _} {a4' : _} (h4 : a4 = a4') : cW a0 a1 a2 a3 a4 = cW a0 a1 a2 a3 a4' := by subst_vars; rfl
@[congr] theorem q07m {a0 : _} {a0' : _} {a1 : _} {a2 : _} {a3 : _} {a3' : _} (h0 : a0 = a0') (h3 : a3 = a3') : condC a0 a1 a2 a3 = condC a0' a1 a2 a3' := by subst_vars; rfl
@[congr] theorem q0de {a0 : _} {a0' : _} {a1 : _} {a2 : _} {a3 : _} {a4 : _} {a5 : _} {a6 : _} {a6' : _} (h0 : a0 = a0') (h6 : a6 = a6') : q0dc a0 a1 a2 a3 a4 a5 a6 = q0dc a0' a1 a2 a3 a4 a5 a6' := by subst_vars; rfl
@[congr] theorem q0un {a0 : _} {a1 : _} {a2 : _} {a2' : _} {a3 : _} {a3' : _} (h2 : a2 = a2') (h3 : a3 = a3') : q0um a0 a1 a2 a3 = q0um a0 a1 a2' a3' := by subst_vars; rfl
@[congr] theorem q029 {a0 : _} {a1 : _} {a2 : _} {a2' : _} {a3 : _} {a3' : _} (h2 : a2 = a2') (h3 : a3 = a3') : q028 a0 a1 a2 a3 = q028 a0 a1 a2' a3' := by subst_vars; rfl
@[congr] theorem q0oh {a0 : _} {a0' : _} {a1 : _} {a2 : _} {a3 : _} {a3' : _} (h0 : a0 = a0') (h3 : a3 = a3') : putK a0 a1 a2 a3 = putK a0' a1 a2 a3' := by subst_vars; rfl
@[congr] theorem q0o7 {a0 : _} {a0' : _} {a1 : _} {a1' : _} {a2 : _} {a2' : _} {a3 : _} (h0 : a0 = a0') (h1 : a1 = a1') (h2 : a2 = a2') : q0o6 a0 a1 a2 a3 = q0o6 a0' a1' a2' a3 := by subst_vars; rfl
@[congr] theorem q01r {a0 : _} {a1 : _} {a1' : _} {a2 : _} {a2' : _} {a3 : _} (h1 : a1 = a1') (h2 : a2 = a2') : beqC a0 a1 a2 a3 = beqC a0 a1' a2' a3 := by subst_vars; rfl
@[congr] theorem q0hx {a0 : _} {a0' : _} {a1 : _} {a1' : _} {a2 : _} (h0 : a0 = a0') (h1 : a1 = a1') : lenC a0 a1 a2 = lenC a0' a1' a2 := by subst_vars; rfl
@[congr] theorem q25n {a0 : _} {a0' : _} {a1 : _} {a1' : _} {a2 : _} (h0 : a0 = a0') (h1 : a1 = a1') : strC a0 a1 a2 = strC a0' a1' a2 := by subst_vars; rfl
@[congr] theorem q0i3 {a0 : _} {a0' : _} {a1 : _} (h0 : a0 = a0') : q0i2 a0 a1 = q0i2 a0' a1 := by subst_vars; rfl
@[congr] theorem q0e1 {a0 : _} {a1 : _} {a1' : _} {a2 : _} {a2' : _} {a3 : _} {a3' : _} {a4 : _} (h1 : a1 = a1') (h2 : a2 = a2') (h3 : a3 = a3') : idxC a0 a1 a2 a3 a4 = idxC a0 a1' a2' a3' a4 := by subst_vars; rfl
@[congr] theorem q09g {a0 : _} {a1 : _} {a1' : _} {a2 : _} {a2' : _} {a3 : _} (h1 : a1 = a1') (h2 : a2 = a2') : fldC a0 a1 a2 a3 = fldC a0 a1' a2' a3 := by subst_vars; rfl
@[congr] theorem q01j {a0 : _} {a1 : _} {a2 : _} {a2' : _} {a3 : _} {a3' : _} {a4 : _} {a4' : _} {a5 : _} (h2 : a2 = a2') (h3 : a3 = a3') (h4 : a4 = a4') : arrC a0 a1 a2 a3 a4 a5 = arrC a0 a1 a2' a3' a4' a5 := by subst_vars; rfl
@[congr] theorem q0i6 {a0 : _} {a0' : _} {a1 : _} {a2 : _} {a3 : _} {a3' : _} (h0 : a0 = a0') (h3 : a3 = a3') : q0i5 a0 a1 a2 a3 = q0i5 a0' a1 a2 a3' := by subst_vars; rfl
@[congr] theorem q0im {a0 : _} {a0' : _} {a1 : _} {a1' : _} {a2 : _} {a2' : _} {a3 : _} {a4 : _} {a4' : _} {a5 : _} {a5' : _} {a6 : _} {a6' : _} {a7 : _} (h0 : a0 = a0') (h1 : a1 = a1') (h2 : a2 = a2') (h4 : a4 = a4') (h5 : a5 = a5') (h6 : a6 = a6') : q0il a0 a1 a2 a3 a4 a5 a6 a7 = q0il a0' a1' a2' a3 a4' a5' a6' a7 := by subst_vars; rfl
@[congr] theorem q0io {a0 : _} {a1 : _} {a1' : _} {a2 : _} {a3 : _} {a4 : _} {a4' : _} (h1 : a1 = a1') (h4 : a4 = a4') : q0in a0 a1 a2 a3 a4 = q0in a0 a1' a2 a3 a4' := by subst_vars; rfl
@[congr] theorem q05v {a0 : _} {a0' : _} {a1 : _} {a1' : _} {a2 : _} {a2' : _} {a3 : _} {a3' : _} {a4 : _} {a5 : _} {a6 : _} {a7 : _} {a7' : _} (h0 : a0 = a0') (h1 : a1 = a1') (h2 : a2 = a2') (h3 : a3 = a3') (h7 : a7 = a7') : q05u a0 a1 a2 a3 a4 a5 a6 a7 = q05u a0' a1' a2' a3' a4 a5 a6 a7' := by subst_vars; rfl
@[congr] theorem q0pc {a0 : _} {a1 : _} {a2 : _} {a2' : _} {a3 : _} {a3' : _} {a4 : _} {a5 : _} {a5' : _} (h2 : a2 = a2') (h3 : a3 = a3') (h5 : a5 = a5') : q0pb a0 a1 a2 a3 a4 a5 = q0pb a0 a1 a2' a3' a4 a5' := by subst_vars; rfl
@[congr] theorem q0nf {a0 : _} {a0' : _} {a1 : _} {a1' : _} {a2 : _} {a3 : _} {a4 : _} {a4' : _} {a5 : _} {a5' : _} (h0 : a0 = a0') (h1 : a1 = a1') (h4 : a4 = a4') (h5 : a5 = a5') : q0ne a0 a1 a2 a3 a4 a5 = q0ne a0' a1' a2 a3 a4' a5' := by subst_vars; rfl
@[congr] theorem q1mp {a0 : _} {a1 : _} {a1' : _} {a2 : _} (h1 : a1 = a1') : q1mo a0 a1 a2 = q1mo a0 a1' a2 := by subst_vars; rfl
@[congr] theorem q1el {a0 : _} {a1 : _} {a1' : _} {a2 : _} {a2' : _} {a3 : _} (h1 : a1 = a1') (h2 : a2 = a2') : q1ek a0 a1 a2 a3 = q1ek a0 a1' a2' a3 := by subst_vars; rfl
@[congr] theorem q1e6 {a0 : _} {a0' : _} {a1 : _} {a1' : _} {a2 : _} {a3 : _} {a4 : _} {a4' : _} (h0 : a0 = a0') (h1 : a1 = a1') (h4 : a4 = a4') : q1e5 a0 a1 a2 a3 a4 = q1e5 a0' a1' a2 a3 a4' := by subst_vars; rfl
@[congr] theorem q0tl {a0 : _} {a1 : _} {a1' : _} {a2 : _} {a2' : _} {a3 : _} {a4 : _} {a4' : _} (h1 : a1 = a1') (h2 : a2 = a2') (h4 : a4 = a4') : q0tk a0 a1 a2 a3 a4 = q0tk a0 a1' a2' a3 a4' := by subst_vars; rfl
@[congr] theorem q0to {a0 : _} {a0' : _} {a1 : _} {a1' : _} {a2 : _} {a3 : _} {a4 : _} {a4' : _} {a5 : _} {a5' : _} (h0 : a0 = a0') (h1 : a1 = a1') (h4 : a4 = a4') (h5 : a5 = a5') : q0tm a0 a1 a2 a3 a4 a5 = q0tm a0' a1' a2 a3 a4' a5' := by subst_vars; rfl
@[congr] theorem q0cx {a0 : _} {a0' : _} {a1 : _} {a1' : _} {a2 : _} (h0 : a0 = a0') (h1 : a1 = a1') : q0cw a0 a1 a2 = q0cw a0' a1' a2 := by subst_vars; rfl
@[congr] theorem q0d9 {a0 : _} {a0' : _} {a1 : _} {a1' : _} {a2 : _} (h0 : a0 = a0') (h1 : a1 = a1') : q0d8 a0 a1 a2 = q0d8 a0' a1' a2 := by subst_vars; rfl
@[congr] theorem q0l6 {a0 : _} {a1 : _} {a2 : _} {a3 : _} {a3' : _} {a4 : _} {a4' : _} (h3 : a3 = a3') (h4 : a4 = a4') : newK a0 a1 a2 a3 a4 = newK a0 a1 a2 a3' a4' := by subst_vars; rfl
@[congr] theorem q02k {a0 : _} {a0' : _} {a1 : _} {a2 : _} {a2' : _} {a3 : _} (h0 : a0 = a0') (h2 : a2 = a2') : boxW a0 a1 a2 a3 = boxW a0' a1 a2' a3 := by subst_vars; rfl
@[congr] theorem q02x {a0 : _} {a1 : _} {a2 : _} {a2' : _} {a3 : _} (h2 : a2 = a2') : q02w a0 a1 a2 a3 = q02w a0 a1 a2' a3 := by subst_vars; rfl
@[congr] theorem q02m {a0 : _} {a1 : _} {a2 : _} {a3 : _} {a3' : _} {a4 : _} {a5 : _} {a5' : _} (h3 : a3 = a3') (h5 : a5 = a5') : q02l a0 a1 a2 a3 a4 a5 = q02l a0 a1 a2 a3' a4 a5' := by subst_vars; rfl
@[congr] theorem q0jd {a0 : _} {a1 : _} {a2 : _} {a2' : _} {a3 : _} {a3' : _} {a4 : _} {a5 : _} {a6 : _} {a6' : _} (h2 : a2 = a2') (h3 : a3 = a3') (h6 : a6 = a6') : makeC a0 a1 a2 a3 a4 a5 a6 = makeC a0 a1 a2' a3' a4 a5 a6' := by subst_vars; rfl
@[congr] theorem q01o {a0 : _} {a0' : _} {a1 : _} {a1' : _} {a2 : _} {a3 : _} (h0 : a0 = a0') (h1 : a1 = a1') : q01n a0 a1 a2 a3 = q01n a0' a1' a2 a3 := by subst_vars; rfl
@[congr] theorem q016 {a0 : _} {a0' : _} {a1 : _} {a2 : _} {a3 : _} {a4 : _} {a5 : _} {a5' : _} {a6 : _} {a6' : _} (h0 : a0 = a0') (h5 : a5 = a5') (h6 : a6 = a6') : q014 a0 a1 a2 a3 a4 a5 a6 = q014 a0' a1 a2 a3 a4 a5' a6' := by subst_vars; rfl
@[congr] theorem q019 {a0 : _} {a1 : _} {a2 : _} {a3 : _} {a4 : _} {a4' : _} {a5 : _} {a5' : _} {a6 : _} {a6' : _} (h4 : a4 = a4') (h5 : a5 = a5') (h6 : a6 = a6') : q017 a0 a1 a2 a3 a4 a5 a6 = q017 a0 a1 a2 a3 a4' a5' a6' := by subst_vars; rfl
@[congr] theorem q0td {a0 : _} {a0' : _} {a1 : _} {a1' : _} {a2 : _} {a3 : _} (h0 : a0 = a0') (h1 : a1 = a1') : srcW a0 a1 a2 a3 = srcW a0' a1' a2 a3 := by subst_vars; rfl
@[congr] theorem q07q {a0 : _} {a1 : _} {a1' : _} {a2 : _} (h1 : a1 = a1') : q07p a0 a1 a2 = q07p a0 a1' a2 := by subst_vars; rfl
@[congr] theorem q0lq {a0 : _} {a0' : _} {a1 : _} {a1' : _} {a2 : _} (h0 : a0 = a0') (h1 : a1 = a1') : q0lp a0 a1 a2 = q0lp a0' a1' a2 := by subst_vars; rfl
@[congr] theorem q0kk {a0 : _} {a1 : _} {a1' : _} {a2 : _} {a2' : _} {a3 : _} (h1 : a1 = a1') (h2 : a2 = a2') : mmW a0 a1 a2 a3 = mmW a0 a1' a2' a3 := by subst_vars; rfl
@[congr] theorem q0fs {a0 : _} {a1 : _} {a1' : _} {a2 : _} {a2' : _} {a3 : _} (h1 : a1 = a1') (h2 : a2 = a2') : q0fr a0 a1 a2 a3 = q0fr a0 a1' a2' a3 := by subst_vars; rfl
@[congr] theorem q0rp {a0 : _} {a1 : _} {a1' : _} {a2 : _} {a2' : _} {a3 : _} {a3' : _} {a4 : _} {a4' : _} {a5 : _} (h1 : a1 = a1') (h2 : a2 = a2') (h3 : a3 = a3') (h4 : a4 = a4') : slcC a0 a1 a2 a3 a4 a5 = slcC a0 a1' a2' a3' a4' a5 := by subst_vars; rfl
@[congr] theorem q01t {a0 : _} {a1 : _} {a2 : _} {a2' : _} {a3 : _} {a3' : _} {a4 : _} (h2 : a2 = a2') (h3 : a3 = a3') : q01s a0 a1 a2 a3 a4 = q01s a0 a1 a2' a3' a4 := by subst_vars; rfl
@[congr] theorem q025 {a0 : _} {a1 : _} {a1' : _} {a2 : _} {a2' : _} {a3 : _} (h1 : a1 = a1') (h2 : a2 = a2') : binW a0 a1 a2 a3 = binW a0 a1' a2' a3 := by subst_vars; rfl
@[congr] theorem q023 {a0 : _} {a1 : _} {a2 : _} {a2' : _} {a3 : _} {a3' : _} {a4 : _} (h2 : a2 = a2') (h3 : a3 = a3') : binI a0 a1 a2 a3 a4 = binI a0 a1 a2' a3' a4 := by subst_vars; rfl
@[congr] theorem q0ww {a0 : _} {a1 : _} {a1' : _} {a2 : _} (h1 : a1 = a1') : unW a0 a1 a2 = unW a0 a1' a2 := by subst_vars; rfl
@[congr] theorem q08x {a0 : _} {a0' : _} {a1 : _} {a2 : _} (h0 : a0 = a0') : q08w a0 a1 a2 = q08w a0' a1 a2 := by subst_vars; rfl
@[congr] theorem q00q {a0 : _} {a0' : _} {a1 : _} {a2 : _} {a3 : _} {a3' : _} {a4 : _} {a4' : _} {a5 : _} (h0 : a0 = a0') (h3 : a3 = a3') (h4 : a4 = a4') : q00p a0 a1 a2 a3 a4 a5 = q00p a0' a1 a2 a3' a4' a5 := by subst_vars; rfl
@[congr] theorem q007 {a0 : _} {a1 : _} {a2 : _} {a3 : _} {a4 : _} {a5 : _} {a6 : _} {a6' : _} (h6 : a6 = a6') : q006 a0 a1 a2 a3 a4 a5 a6 = q006 a0 a1 a2 a3 a4 a5 a6' := by subst_vars; rfl
@[congr] theorem q00e {a0 : _} {a1 : _} {a2 : _} {a3 : _} {a4 : _} {a4' : _} (h4 : a4 = a4') : SemC a0 a1 a2 a3 a4 = SemC a0 a1 a2 a3 a4' := by subst_vars; rfl
@[congr] theorem q086 {a0 : _} {a1 : _} {a2 : _} {a3 : _} {a4 : _} {a4' : _} (h4 : a4 = a4') : q085 a0 a1 a2 a3 a4 = q085 a0 a1 a2 a3 a4' := by subst_vars; rfl
@[congr] theorem q0g4 {a0 : _} {a1 : _} {a2 : _} {a3 : _} {a4 : _} {a5 : _} {a5' : _} (h5 : a5 = a5') : q0g3 a0 a1 a2 a3 a4 a5 = q0g3 a0 a1 a2 a3 a4 a5' := by subst_vars; rfl
@[congr] theorem q0x8 {a0 : _} {a1 : _} {a2 : _} {a3 : _} {a4 : _} {a5 : _} {a5' : _} (h5 : a5 = a5') : valD a0 a1 a2 a3 a4 a5 = valD a0 a1 a2 a3 a4 a5' := by subst_vars; rfl
@[congr] theorem q07d {a0 : _} {a1 : _} {a2 : _} {a3 : _} {a3' : _} {a4 : _} {a4' : _} {a5 : _} (h3 : a3 = a3') (h4 : a4 = a4') : coV a0 a1 a2 a3 a4 a5 = coV a0 a1 a2 a3' a4' a5 := by subst_vars; rfl
@[congr] theorem q06y {a0 : _} {a1 : _} {a2 : _} {a3 : _} {a4 : _} {a5 : _} {a6 : _} {a6' : _} (h6 : a6 = a6') : coC a0 a1 a2 a3 a4 a5 a6 = coC a0 a1 a2 a3 a4 a5 a6' := by subst_vars; rfl
@[congr] theorem q076 {a0 : _} {a1 : _} {a2 : _} {a3 : _} {a4 : _} {a4' : _} (h4 : a4 = a4') : coH a0 a1 a2 a3 a4 = coH a0 a1 a2 a3 a4' := by subst_vars; rfl
@[congr] theorem q07c {a0 : _} {a1 : _} {a2 : _} {a2' : _} (h2 : a2 = a2') : coN a0 a1 a2 = coN a0 a1 a2' := by subst_vars; rfl
@[congr] theorem q005 {a0 : _} {a1 : _} {a2 : _} {a3 : _} {a4 : _} {a4' : _} {a5 : _} {a5' : _} {a6 : _} (h4 : a4 = a4') (h5 : a5 = a5') : q004 a0 a1 a2 a3 a4 a5 a6 = q004 a0 a1 a2 a3 a4' a5' a6 := by subst_vars; rfl
@[congr] theorem q001 {a0 : _} {a1 : _} {a2 : _} {a3 : _} {a4 : _} {a5 : _} {a6 : _} {a7 : _} {a7' : _} (h7 : a7 = a7') : q000 a0 a1 a2 a3 a4 a5 a6 a7 = q000 a0 a1 a2 a3 a4 a5 a6 a7' := by subst_vars; rfl
@[congr] theorem q003 {a0 : _} {a1 : _} {a2 : _} {a3 : _} {a4 : _} {a5 : _} {a6 : _} {a6' : _} (h6 : a6 = a6') : q002 a0 a1 a2 a3 a4 a5 a6 = q002 a0 a1 a2 a3 a4 a5 a6' := by subst_vars; rfl
@[congr] theorem q0is {a0 : _} {a1 : _} {a1' : _} {a2 : _} {a2' : _} {a3 : _} (h1 : a1 = a1') (h2 : a2 = a2') : q0ip a0 a1 a2 a3 = q0ip a0 a1' a2' a3 := by subst_vars; rfl
@[congr] theorem q0ig {a0 : _} {a0' : _} {a1 : _} {a1' : _} {a2 : _} (h0 : a0 = a0') (h1 : a1 = a1') : q0id a0 a1 a2 = q0id a0' a1' a2 := by subst_vars; rfl
@[congr] theorem q05y {a0 : _} {a0' : _} {a1 : _} {a1' : _} {a2 : _} {a2' : _} {a3 : _} {a4 : _} (h0 : a0 = a0') (h1 : a1 = a1') (h2 : a2 = a2') : q05w a0 a1 a2 a3 a4 = q05w a0' a1' a2' a3 a4 := by subst_vars; rfl
@[congr] theorem q0of {a0 : _} {a0' : _} {a1 : _} {a2 : _} {a3 : _} {a3' : _} (h0 : a0 = a0') (h3 : a3 = a3') : putD a0 a1 a2 a3 = putD a0' a1 a2 a3' := by subst_vars; rfl
@[congr] theorem q0pn {a0 : _} {a1 : _} {a2 : _} {a3 : _} {a4 : _} {a4' : _} {a5 : _} {a5' : _} (h4 : a4 = a4') (h5 : a5 = a5') : retP a0 a1 a2 a3 a4 a5 = retP a0 a1 a2 a3 a4' a5' := by subst_vars; rfl
@[congr] theorem q0pg {a0 : _} {a1 : _} {a1' : _} {a2 : _} {a3 : _} (h1 : a1 = a1') : retL a0 a1 a2 a3 = retL a0 a1' a2 a3 := by subst_vars; rfl
@[congr] theorem q0pk {a0 : _} {a1 : _} {a1' : _} {a2 : _} {a3 : _} (h1 : a1 = a1') : q0pj a0 a1 a2 a3 = q0pj a0 a1' a2 a3 := by subst_vars; rfl
@[congr] theorem q0d5 {a0 : _} {a0' : _} {a1 : _} {a1' : _} {a2 : _} (h0 : a0 = a0') (h1 : a1 = a1') : q0d0 a0 a1 a2 = q0d0 a0' a1' a2 := by subst_vars; rfl
@[congr] theorem q0d2 {a0 : _} {a0' : _} {a1 : _} {a1' : _} {a2 : _} (h0 : a0 = a0') (h1 : a1 = a1') : q0d1 a0 a1 a2 = q0d1 a0' a1' a2 := by subst_vars; rfl
@[congr] theorem q0q0 {a0 : _} {a0' : _} {a1 : _} {a2 : _} {a3 : _} (h0 : a0 = a0') : q0pz a0 a1 a2 a3 = q0pz a0' a1 a2 a3 := by subst_vars; rfl

theorem q09t {α : Type} {l : List α} {i : Nat} {c : α} (h : l[i]? = some c) (P : α -> Prop) : (∀ c', l[i]? = some c' -> P c') = P c := by
 rw [h]; simp

end Go.Ab

/- The abstract layer, part 31: reads of single cells whose value is known. -/
namespace Go.Ab

theorem q09u {α : Type} {l : List α} {i : Nat} {d : α} {P : α -> Prop} : (i < l.length /\ ∀ c, l[i]? = some c -> P c) = (i < l.length /\ P (l[i]?.getD d)) := by
 refine propext ⟨fun h => ⟨h.1, ?_⟩, fun h => ⟨h.1, fun c hc => ?_⟩⟩
 ·have := h.2 _ (List.getElem?_eq_getElem h.1)
  rw [List.getElem?_eq_getElem h.1]; exact this
 ·have := h.2; rw [hc] at this; exact this
theorem q0i9 {l : List T} {off d : Nat} {K : St -> Prop} {S : St} : q0i5 (.t (.pin l off)) d K S = (off < l.length /\ K { S with env := upd S.env d (.t (l[off]?.getD .any)) }) := q09u (P := fun c => K { S with env := upd S.env d (.t c) })
def q0ic (r off d : Nat) (K : St -> Prop) (S : St) (x : Option (List T × List (Nat × Nat))) : Prop := match x with
 | some (l, lk) => off < l.length /\ (match lk.lookup off with
   | some q => K { S with env := upd S.env d (.own q) }
   | none => q0il S r off d l lk (l[off]?.getD .any) K)
 | none => False
theorem q0ia {r off d : Nat} {K : St -> Prop} {S : St} : q0i5 (.ptr r off) d K S = q0ic r off d K S (S.roots r).cells := by
 show (match (S.roots r).cells with
  | some (l, lk) => off < l.length /\ (match lk.lookup off with
    | some q => K { S with env := upd S.env d (.own q) }
    | none => ∀ c, l[off]? = some c -> q0il S r off d l lk c K)
  | none => False) = _
 unfold q0ic
 cases (S.roots r).cells with
 | none => rfl
 | some x =>
   obtain ⟨l, lk⟩ := x
   show (off < l.length /\ (match lk.lookup off with
    | some q => K { S with env := upd S.env d (.own q) }
    | none => ∀ c, l[off]? = some c -> q0il S r off d l lk c K)) = (off < l.length /\ (match lk.lookup off with
    | some q => K { S with env := upd S.env d (.own q) }
    | none => q0il S r off d l lk (l[off]?.getD .any) K))
   cases lk.lookup off with
   | some q => rfl
   | none => exact q09u (P := fun c => q0il S r off d l lk c K)
def q0ib (r d : Nat) (K : St -> Prop) (S : St) (x : Root) : Prop := match x with
 | .live (.box l) lk => 0 < l.length /\ (match lk.lookup 0 with
   | some q => K { S with env := upd S.env d (.own q) }
   | none => q0il S r 0 d l lk (l[0]?.getD .any) K)
 | _ => False
theorem q0i8 {r d : Nat} {K : St -> Prop} {S : St} : q0i5 (.own r) d K S = q0ib r d K S (S.roots r) := by
 show (match S.roots r with
  | .live (.box l) lk => 0 < l.length /\ (match lk.lookup 0 with
    | some q => K { S with env := upd S.env d (.own q) }
    | none => ∀ c, l[0]? = some c -> q0il S r 0 d l lk c K)
  | _ => False) = _
 unfold q0ib
 cases S.roots r with
 | live t lk =>
   cases t with
   | box l =>
     show (0 < l.length /\ (match lk.lookup 0 with
      | some q => K { S with env := upd S.env d (.own q) }
      | none => ∀ c, l[0]? = some c -> q0il S r 0 d l lk c K)) = (0 < l.length /\ (match lk.lookup 0 with
      | some q => K { S with env := upd S.env d (.own q) }
      | none => q0il S r 0 d l lk (l[0]?.getD .any) K))
     cases lk.lookup 0 with
     | some q => rfl
     | none => exact q09u (P := fun c => q0il S r 0 d l lk c K)
   | _ => rfl
 | _ => rfl
theorem q0ij {l : List T} {off : Nat} {S : St} {K : A -> Prop} : q0id (.t (.pin l off)) S K = (off < l.length /\ K (.t (l[off]?.getD .any))) := q09u (P := fun c => K (.t c))
def q0if (off : Nat) (K : A -> Prop) (x : Option (List T × List (Nat × Nat))) : Prop := match x with
 | some (l, lk) => off < l.length /\ (match lk.lookup off with
   | some q => K (.own q)
   | none => (l[off]?.getD T.any).flat = true /\ K (.t (l[off]?.getD .any)))
 | none => False
theorem q0ik {r off : Nat} {S : St} {K : A -> Prop} : q0id (.ptr r off) S K = q0if off K (S.roots r).cells := by
 show (match (S.roots r).cells with
  | some (l, lk) => off < l.length /\ (match lk.lookup off with
    | some q => K (.own q)
    | none => ∀ c : T, l[off]? = some c -> c.flat = true /\ K (.t c))
  | none => False) = _
 unfold q0if
 cases (S.roots r).cells with
 | none => rfl
 | some x =>
   obtain ⟨l, lk⟩ := x
   show (off < l.length /\ (match lk.lookup off with
    | some q => K (.own q)
    | none => ∀ c : T, l[off]? = some c -> c.flat = true /\ K (.t c))) = (off < l.length /\ (match lk.lookup off with
    | some q => K (.own q)
    | none => (l[off]?.getD T.any).flat = true /\ K (.t (l[off]?.getD .any))))
   cases lk.lookup off with
   | some q => rfl
   | none => exact q09u (P := fun c : T => c.flat = true /\ K (.t c))
def q0ie (K : A -> Prop) (x : Root) : Prop := match x with
 | .live (.box l) lk => 0 < l.length /\ (match lk.lookup 0 with
   | some q => K (.own q)
   | none => (l[0]?.getD T.any).flat = true /\ K (.t (l[0]?.getD .any)))
 | _ => False
theorem q0ii {r : Nat} {S : St} {K : A -> Prop} : q0id (.own r) S K = q0ie K (S.roots r) := by
 show (match S.roots r with
  | .live (.box l) lk => 0 < l.length /\ (match lk.lookup 0 with
    | some q => K (.own q)
    | none => ∀ c : T, l[0]? = some c -> c.flat = true /\ K (.t c))
  | _ => False) = _
 unfold q0ie
 cases S.roots r with
 | live t lk =>
   cases t with
   | box l =>
     show (0 < l.length /\ (match lk.lookup 0 with
      | some q => K (.own q)
      | none => ∀ c : T, l[0]? = some c -> c.flat = true /\ K (.t c))) = (0 < l.length /\ (match lk.lookup 0 with
      | some q => K (.own q)
      | none => (l[0]?.getD T.any).flat = true /\ K (.t (l[0]?.getD .any))))
     cases lk.lookup 0 with
     | some q => rfl
     | none => exact q09u (P := fun c : T => c.flat = true /\ K (.t c))
   | _ => rfl
 | _ => rfl
section
variable {S : St} {K : A -> Prop}
def lenO (K : A -> Prop) : Root -> Prop
 | .live (.arr s l) _ => 0 < s /\ K (.v (.int .i64 ((l.length / s : Nat) : Int)))
 | _ => False
theorem q0hy : lenC (.t (.v (.slice none 0 0))) S K = K (.v (.int .i64 0)) := rfl
theorem q0i0 {s : Nat} {l : List T} : lenC (.t (.sh s l)) S K = (0 < s /\ K (.v (.int .i64 ((l.length / s : Nat) : Int)))) := rfl
theorem q0hz {r : Nat} : lenC (.own r) S K = lenO K (S.roots r) := by
 show (match S.roots r with | .live (.arr s l) _ => 0 < s /\ K (.v (.int .i64 ((l.length / s : Nat) : Int))) | _ => False) = _
 cases S.roots r with
 | live t lk => cases t <;> rfl
 | _ => rfl
theorem q0i1 {r off m : Nat} : lenC (.sub r off m) S K = K (.v (.int .i64 (m : Nat))) := rfl
def strO (K : A -> Prop) : Root -> Prop
 | .live (.arr 1 l) _ => (match bytT l with | some bs => K (.v (.string ⟨bs.toArray⟩)) | none => False)
 | _ => False
theorem q25o {r : Nat} : strC (.own r) S K = strO K (S.roots r) := by
 unfold strC strO
 rfl
def idxO (z r : Nat) (iv : Int) (K : A -> Prop) : Root -> Prop
 | .live (.arr s l) _ => s = z /\ (iv.toNat + 1) * z <= l.length /\ K (.ptr r (iv.toNat * z))
 | _ => False
theorem q0e3 {z s : Nat} {l : List T} {k : IntKind} {iv : Int} : idxC z (.t (.sh s l)) (.t (.v (.int k iv))) S K = (0 <= iv /\ s = z /\ (iv.toNat + 1) * z <= l.length /\ K (.t (.pin l (iv.toNat * z)))) := rfl
theorem q0e2 {z r : Nat} {k : IntKind} {iv : Int} : idxC z (.own r) (.t (.v (.int k iv))) S K = (0 <= iv /\ idxO z r iv K (S.roots r)) := by
 show (0 <= iv /\ (match S.roots r with | .live (.arr s l) _ => s = z /\ (iv.toNat + 1) * z <= l.length /\ K (.ptr r (iv.toNat * z)) | _ => False)) = _
 cases S.roots r with
 | live t lk => cases t <;> rfl
 | _ => rfl
theorem q0e4 {z r off m : Nat} {k : IntKind} {iv : Int} : idxC z (.sub r off m) (.t (.v (.int k iv))) S K = (0 <= iv /\ iv.toNat < m /\ K (.ptr r (off + iv.toNat * z))) := rfl
def fldO (r off : Nat) (K : A -> Prop) : Root -> Prop
 | .live (.box _) _ => K (.ptr r off)
 | _ => False
theorem q09i {off o : Nat} {l : List T} : fldC off (.t (.pin l o)) S K = K (.t (.pin l (o + off))) := rfl
theorem q09j {off o r : Nat} : fldC off (.ptr r o) S K = K (.ptr r (o + off)) := rfl
theorem q09h {off r : Nat} : fldC off (.own r) S K = fldO r off K (S.roots r) := by
 show (match S.roots r with | .live (.box _) _ => K (.ptr r off) | _ => False) = _
 cases S.roots r with
 | live t lk => cases t <;> rfl
 | _ => rfl
def arrO (z r : Nat) (iv : Int) (K : A -> Prop) : Root -> Prop
 | .live (.box _) _ => K (.ptr r (iv.toNat * z))
 | _ => False
theorem q01l {len z o : Nat} {l : List T} {k : IntKind} {iv : Int} : arrC len z (.t (.pin l o)) (.t (.v (.int k iv))) S K = (0 <= iv /\ iv < len /\ K (.t (.pin l (o + iv.toNat * z)))) := rfl
theorem q01m {len z r o : Nat} {k : IntKind} {iv : Int} : arrC len z (.ptr r o) (.t (.v (.int k iv))) S K = (0 <= iv /\ iv < len /\ K (.ptr r (o + iv.toNat * z))) := rfl
theorem q01k {len z r : Nat} {k : IntKind} {iv : Int} : arrC len z (.own r) (.t (.v (.int k iv))) S K = (0 <= iv /\ iv < len /\ arrO z r iv K (S.roots r)) := by
 show (0 <= iv /\ iv < len /\ (match S.roots r with | .live (.box _) _ => K (.ptr r (iv.toNat * z)) | _ => False)) = _
 cases S.roots r with
 | live t lk => cases t <;> rfl
 | _ => rfl
def q0ir (off z : Nat) (K : A -> Prop) : Option (List T × List (Nat × Nat)) -> Prop
 | some (l, lk) => off + z <= l.length /\ q05w l lk off z K
 | none => False
def q0iq (z : Nat) (K : A -> Prop) : Root -> Prop
 | .live (.box l) lk => z <= l.length /\ q05w l lk 0 z K
 | _ => False
theorem q0iu {z off : Nat} {l : List T} : q0ip z (.t (.pin l off)) S K = (off + z <= l.length /\ K (.t (.agg ((l.drop off).take z)))) := rfl
theorem q0iv {z r off : Nat} : q0ip z (.ptr r off) S K = q0ir off z K (S.roots r).cells := by
 show (match (S.roots r).cells with
  | some (l, lk) => off + z <= l.length /\ q05w l lk off z K
  | none => False) = _
 unfold q0ir
 cases (S.roots r).cells <;> rfl
theorem q0it {z r : Nat} : q0ip z (.own r) S K = q0iq z K (S.roots r) := by
 show (match S.roots r with
  | .live (.box l) lk => z <= l.length /\ q05w l lk 0 z K
  | _ => False) = _
 cases S.roots r with
 | live t lk => cases t <;> rfl
 | _ => rfl
end
/- In texts that take q0i5 out of go_sem (inside a section), these rules stand for it: a read whose place is not known is not unfolded. -/
attribute [go_sem] q01l q01m q01k arrO q0i9 q0ia q0ic q0i8 q0ib q0ij q0ik q0if q0ii q0ie q0hy q0i0 q0hz q0i1 lenO q25o strO bytT q0e3 q0e2 q0e4 idxO q09i q09j q09h fldO q0iu q0iv q0it q0ir q0iq Option.getD_some
end Go.Ab

/- The abstract layer, part 32: what a cell of a root owns becomes data that is only read. -/
namespace Go.Ab

theorem Weak.shareJoin {n : Nat} {S : St} (r o d : Nat) {t : T} {l : List T} {lk : List (Nat × Nat)} (hd : S.roots d = .live t []) (hr : (S.roots r).cells = some (l, lk)) (hne : d ≠ r) (hc : l[o]? = some .any) (hlk : (o, d) ∈ lk) :
  Weak n S ⟨fun i => q0rg d t (S.env i), upd (upd S.roots d .dead) r ((S.roots r).with (l.set o t.toSh) (lk.filter fun p => p.1 < o || o + 1 <= p.1))⟩ := by
 intro X w0 O0 a w hs fp g
 obtain ⟨ho, hany⟩ := List.getElem?_eq_some_iff.1 hc
 have hroot := g.root d
 rw [hd] at hroot
 obtain ⟨x, hx, hox, _⟩ := hroot
 have hsub : ∀ q b, b ∈ upd fp d [] q -> q ≠ d /\ b ∈ fp q := fun q b hb => by
  by_cases hq : q = d
  ·subst hq; rw [q0x2] at hb; simp at hb
  ·rw [q0x1 _ _ _ _ hq] at hb; exact ⟨hq, hb⟩
 have hO : ∀ b, ¬ Ob X fp b -> b < w.heap.size -> ¬ Ob X (upd fp d []) b := fun b h _ h' => by
  rcases h' with h' | ⟨q, hq⟩
  ·exact h (.inl h')
  ·exact h (.inr ⟨q, (hsub q b hq).2⟩)
 have hk : ∀ p, q009 p w w := fun p _ _ _ _ _ h => h
 have hd0 : ∀ b ∈ fp d, ¬ Ob X (upd fp d []) b := fun b hb h => by
  rcases h with h | ⟨q, hq⟩
  ·exact g.foreign d b hb h
  ·obtain ⟨h1, h2⟩ := hsub q b hq; exact h1 (g.disj q d b h2 hb)
 refine ⟨hs, upd fp d [], g.size, g.defers, fun i => ?_, fun q => ?_, fun q q' b h h' => g.disj q q' b (hsub q b h).2 (hsub q' b h').2, fun q => ?_, fun q b h => g.foreign q b (hsub q b h).2, g.xold, g.xout, fun q b h => g.mine q b (hsub q b h).2, g.hist, fun q t' lk' h => ?_, g.hdr, g.small, g.pin⟩
 ·have hi := g.env i
  show Is w (Ob X (upd fp d [])) hs (q0rg d t (S.env i)) _
  generalize S.env i = y at hi
  cases y with
  | own q' =>
    simp only [q0rg]
    split
    ·rename_i he
     subst he
     have := hi.own_inv
     rw [hx, Option.some.injEq] at this
     rw [← this]
     exact .t (hox.toSh hO hd0)
    ·exact hi.mono (hk _) hO (fun _ _ h => h)
  | _ => exact hi.mono (hk _) hO (fun _ _ h => h)
 ·show q00d w _ hs (upd (upd S.roots d .dead) r _ q) (hs q) (upd fp d [] q)
  by_cases hq : q = r
  ·subst hq
   rw [q0x2, q0x1 _ _ _ _ (Ne.symm hne)]
   obtain ⟨b, xr, cs, e, fps, hxr, hxb, hb, hle, hf, hrr, hfp, hl, hmk⟩ := g.block hr ho
   obtain ⟨y, hy1, hy2⟩ := hl _ hlk
   rw [hx] at hy2; cases hy2
   have hcell := q060 hb (show o < cs.size by omega)
   rw [hcell] at hy1; cases hy1
   rw [hxr, hfp]
   refine hmk w _ _ cs _ _ _ hb rfl (by simp) (by simpa using hf) (fun i hi => ?_) (fun p hp => hl p ((List.mem_filter.1 hp).1))
   have hi' : i < l.length := by simpa using hi
   by_cases hio : o = i
   ·subst hio
    simp only [List.getElem_set_self]
    have h1 := hrr o ho
    rw [hany] at h1
    generalize fps.getD o [] = f at h1
    cases h1
    exact .rd (hox.toSh hO hd0)
   ·simp only [List.getElem_set_ne hio]
    exact (hrr i hi').mono (hk _) hO (hk _)
  ·rw [q0x1 _ _ _ _ hq]
   by_cases hqd : q = d
   ·subst hqd; rw [q0x2, q0x2]; rfl
   ·rw [q0x1 _ _ _ _ hqd, q0x1 _ _ _ _ hqd]
    exact g.keepRoot q (hk _) hO (fun _ _ h => h) rfl (fun b _ => rfl)
 ·by_cases hq : q = d
  ·subst hq; rw [q0x2]; simp
  ·rw [q0x1 _ _ _ _ hq]; exact g.nodup q
 ·have h : upd (upd S.roots d .dead) r ((S.roots r).with (l.set o t.toSh) (lk.filter fun p => p.1 < o || o + 1 <= p.1)) q = .live t' lk' := h
  by_cases hq : q = r
  ·subst hq
   rw [q0x2] at h
   rcases Root.cells_spec hr with ⟨s, h1⟩ | h1 <;> rw [h1] at h <;> cases h <;> rfl
  ·rw [q0x1 _ _ _ _ hq] at h
   by_cases hqd : q = d
   ·subst hqd; rw [q0x2] at h; cases h
   ·rw [q0x1 _ _ _ _ hqd] at h; exact g.rooty q t' lk' h
theorem q09e {fps : List (List Nat)} {o : Nat} {f : List Nat} (ho : o < fps.length) (h0 : fps.getD o [] = []) : ∃ A B : List Nat, fps.flatten = A ++ B /\ (fps.set o f).flatten = A ++ (f ++ B) := by
 refine ⟨(fps.take o).flatten, (fps.drop (o + 1)).flatten, ?_, ?_⟩
 ·conv => lhs; rw [← List.take_append_drop o fps, List.drop_eq_getElem_cons ho]
  rw [List.flatten_append, List.flatten_cons]
  have : fps[o] = [] := by rw [List.getD_eq_getElem?_getD, List.getElem?_eq_getElem ho] at h0; exact h0
  rw [this]; rfl
 ·rw [List.set_eq_take_append_cons_drop, if_pos ho, List.flatten_append, List.flatten_cons]
theorem Weak.close {n : Nat} {S : St} (r o d : Nat) {t : T} {l : List T} {lk : List (Nat × Nat)} (hd : S.roots d = .live t []) (hr : (S.roots r).cells = some (l, lk)) (hne : d ≠ r) (hc : l[o]? = some .any) (hlk : (o, d) ∈ lk) :
  Weak n S ⟨S.env, upd (upd S.roots d .dead) r ((S.roots r).with (l.set o t) (lk.filter fun p => p.1 < o || o + 1 <= p.1))⟩ := by
 intro X w0 O0 a w hs fp g
 obtain ⟨ho, hany⟩ := List.getElem?_eq_some_iff.1 hc
 have hroot := g.root d
 rw [hd] at hroot
 obtain ⟨x, hx, hox, _⟩ := hroot
 obtain ⟨b, xr, cs, e, fps, hxr, hxb, hb, hle, hf, hrr, hfp, hl, hmk⟩ := g.block hr ho
 obtain ⟨y, hy1, hy2⟩ := hl _ hlk
 rw [hx] at hy2; cases hy2
 have hcell := q060 hb (show o < cs.size by omega)
 rw [hcell] at hy1; cases hy1
 have h0 : fps.getD o [] = [] := by
  have h1 := hrr o ho
  rw [hany] at h1
  generalize fps.getD o [] = f at h1
  cases h1; rfl
 obtain ⟨A, B, e1, e2⟩ := q09e (f := fp d) (show o < fps.length by omega) h0
 have hnr := g.nodup r
 rw [hfp, e1] at hnr
 have hdr : ∀ b' ∈ fp d, b' ≠ b /\ b' ∉ A /\ b' ∉ B := fun b' hb' => by
  have key : ∀ z ∈ fp r, z ≠ b' := fun z hz he => by subst he; exact hne (g.disj d r z hb' hz)
  rw [hfp, e1] at key
  exact ⟨fun h => key b (by simp) h.symm, fun h => key b' (by simp [h]) rfl, fun h => key b' (by simp [h]) rfl⟩
 let fp' := upd (upd fp d []) r (b :: (fps.set o (fp d)).flatten)
 have er : fp' r = b :: (A ++ (fp d ++ B)) := by show upd _ _ _ _ = _; rw [q0x2, e2]
 have ed : fp' d = [] := by show upd _ _ _ _ = _; rw [q0x1 _ _ _ _ hne, q0x2]
 have eo : ∀ q, q ≠ r -> q ≠ d -> fp' q = fp q := fun q h1 h2 => by show upd _ _ _ _ = _; rw [q0x1 _ _ _ _ h1, q0x1 _ _ _ _ h2]
 have sub : ∀ q b', b' ∈ fp' q -> (q = r /\ (b' ∈ fp r ∨ b' ∈ fp d)) ∨ (q ≠ r /\ q ≠ d /\ b' ∈ fp q) := fun q b' hq => by
  by_cases h1 : q = r
  ·subst h1
   refine .inl ⟨rfl, ?_⟩
   rw [er] at hq
   rw [hfp, e1]
   simp only [List.mem_cons, List.mem_append] at hq ⊢
   rcases hq with h | h | h | h
   ·exact .inl (.inl h)
   ·exact .inl (.inr (.inl h))
   ·exact .inr h
   ·exact .inl (.inr (.inr h))
  ·by_cases h2 : q = d
   ·subst h2; rw [ed] at hq; simp at hq
   ·rw [eo q h1 h2] at hq; exact .inr ⟨h1, h2, hq⟩
 have hOb : Ob X fp' = Ob X fp := funext fun b' => propext ⟨fun h => by
  rcases h with h | ⟨q, hq⟩
  ·exact .inl h
  ·rcases sub q b' hq with ⟨rfl, h | h⟩ | ⟨_, _, h⟩
   ·exact .inr ⟨_, h⟩
   ·exact .inr ⟨_, h⟩
   ·exact .inr ⟨_, h⟩, fun h => by
  rcases h with h | ⟨q, hq⟩
  ·exact .inl h
  ·refine .inr ?_
   by_cases h1 : q = r
   ·subst h1
    refine ⟨q, ?_⟩
    rw [er]
    rw [hfp, e1] at hq
    simp only [List.mem_cons, List.mem_append] at hq ⊢
    rcases hq with h | h | h
    ·exact .inl h
    ·exact .inr (.inl h)
    ·exact .inr (.inr (.inr h))
   ·by_cases h2 : q = d
    ·subst h2
     refine ⟨r, ?_⟩
     rw [er]; simp [hq]
    ·exact ⟨q, by rw [eo q h1 h2]; exact hq⟩⟩
 have back : ∀ q b', b' ∈ fp' q -> ∃ q', b' ∈ fp q' := fun q b' h => by
  rcases sub q b' h with ⟨rfl, h | h⟩ | ⟨_, _, h⟩ <;> exact ⟨_, h⟩
 refine ⟨hs, fp', g.size, g.defers, fun i => ?_, fun q => ?_, fun q q' b' h h' => ?_, fun q => ?_, fun q b' h => ?_, g.xold, g.xout, fun q b' h => ?_, g.hist, fun q t' lk' h => ?_, g.hdr, g.small, g.pin⟩
 ·rw [hOb]; exact g.env i
 ·rw [hOb]
  show q00d w _ hs (upd (upd S.roots d .dead) r _ q) (hs q) (fp' q)
  by_cases hq : q = r
  ·subst hq
   rw [q0x2, er, ← e2, hxr]
   refine hmk w _ _ cs _ _ _ hb rfl (by simp) (by simpa using hf) (fun i hi => ?_) (fun p hp => hl p (List.mem_filter.1 hp).1)
   have hi' : i < l.length := by simpa using hi
   by_cases hio : o = i
   ·subst hio
    simp only [List.getElem_set_self]
    rw [q0r1 (by omega)]
    exact hox
   ·simp only [List.getElem_set_ne hio]
    rw [q0r0 hio]
    exact hrr i hi'
  ·rw [q0x1 _ _ _ _ hq]
   by_cases hqd : q = d
   ·subst hqd; rw [q0x2, ed]; rfl
   ·rw [q0x1 _ _ _ _ hqd, eo q hq hqd]; exact g.root q
 ·rcases sub q b' h with ⟨rfl, h1⟩ | ⟨h1, h2, h3⟩ <;> rcases sub q' b' h' with ⟨rfl, h1'⟩ | ⟨h1', h2', h3'⟩
  ·rfl
  ·rcases h1 with h1 | h1
   ·exact (h1' (g.disj _ _ b' h3' h1)).elim
   ·exact (h2' (g.disj _ _ b' h3' h1)).elim
  ·rcases h1' with h1' | h1'
   ·exact (h1 (g.disj _ _ b' h3 h1')).elim
   ·exact (h2 (g.disj _ _ b' h3 h1')).elim
  ·exact g.disj _ _ b' h3 h3'
 ·by_cases hq : q = r
  ·subst hq
   rw [er]
   obtain ⟨n1, n2⟩ := List.nodup_cons.1 hnr
   obtain ⟨n3, n4, n5⟩ := List.nodup_append.1 n2
   refine List.nodup_cons.2 ⟨fun hm => ?_, List.nodup_append.2 ⟨n3, List.nodup_append.2 ⟨g.nodup d, n4, fun z hz z' hz' e => ?_⟩, fun z hz z' hz' e => ?_⟩⟩
   ·simp only [List.mem_append] at hm n1
    rcases hm with h | h | h
    ·exact n1 (.inl h)
    ·exact (hdr b h).1 rfl
    ·exact n1 (.inr h)
   ·subst e; exact (hdr z hz).2.2 hz'
   ·subst e
    rcases List.mem_append.1 hz' with h | h
    ·exact (hdr z h).2.1 hz
    ·exact n5 z hz z h rfl
  ·by_cases hqd : q = d
   ·subst hqd; rw [ed]; simp
   ·rw [eo q hq hqd]; exact g.nodup q
 ·obtain ⟨q', h'⟩ := back q b' h; exact g.foreign q' b' h'
 ·obtain ⟨q', h'⟩ := back q b' h; exact g.mine q' b' h'
 ·have h : upd (upd S.roots d .dead) r ((S.roots r).with (l.set o t) (lk.filter fun p => p.1 < o || o + 1 <= p.1)) q = .live t' lk' := h
  by_cases hq : q = r
  ·subst hq
   rw [q0x2] at h
   rcases Root.cells_spec hr with ⟨s, h1⟩ | h1 <;> rw [h1] at h <;> cases h <;> rfl
  ·rw [q0x1 _ _ _ _ hq] at h
   by_cases hqd : q = d
   ·subst hqd; rw [q0x2] at h; cases h
   ·rw [q0x1 _ _ _ _ hqd] at h; exact g.rooty q t' lk' h
end Go.Ab

/- The abstract layer, part 37: the one opened child of a box goes back. -/
namespace Go.Ab
theorem Weak.close1 {n : Nat} {S : St} (r o d : Nat) {t : T} {l : List T} (hd : S.roots d = .live t []) (hr : (S.roots r).cells = some (l, [(o, d)])) (hne : d ≠ r) (hc : l[o]? = some .any) :
  Weak n S ⟨S.env, upd (upd S.roots d .dead) r ((S.roots r).with (l.set o t) [])⟩ := by
 have h := Weak.close (n := n) r o d hd hr hne hc (by simp)
 have e : ([(o, d)] : List (Nat × Nat)).filter (fun p => decide (p.1 < o) || decide (o + 1 <= p.1)) = [] := by
  rw [List.filter_cons_of_neg (by simp), List.filter_nil]
 rw [e] at h
 exact h
theorem q006.weak {P : Program} {n : Nat} {d : Option Nat} {f : Operand} {ops : List Operand} {K : St -> Prop} {S S' : St} (h : Weak n S S') (hk : q006 P n d f ops K S') : q006 P n d f ops K S := fun o ts h1 h2 h3 X w0 O0 a w hs fp g Q => by
 obtain ⟨hs', fp', g'⟩ := h X w0 O0 a w hs fp g
 exact hk o ts h1 h2 h3 X w0 O0 a w hs' fp' g' Q
end Go.Ab

/- The abstract layer, part 38: a root read as more. -/
namespace Go.Ab
theorem Weak.le {n : Nat} {S : St} (q : Nat) {t t' : T} (hq : S.roots q = .live t []) (h : Le t t') (hrt : t'.rooty = true) : Weak n S ⟨S.env, upd S.roots q (.live t' [])⟩ := by
 intro X w0 O0 a w hs fp g
 have hroot := g.root q
 rw [hq] at hroot
 obtain ⟨x, hx, ho, hl⟩ := hroot
 obtain ⟨fp', ho', hsub⟩ := h.ow ho
 have hsubr : ∀ r b, b ∈ upd fp q fp' r -> b ∈ fp r := fun r b hb => by
  by_cases hr : r = q
  ·subst hr; rw [q0x2] at hb; exact hsub.subset hb
  ·rwa [q0x1 _ _ _ _ hr] at hb
 have hO : ∀ b, ¬ Ob X fp b -> b < w.heap.size -> ¬ Ob X (upd fp q fp') b := fun b h _ h' => by
  rcases h' with h' | ⟨r, hr⟩
  ·exact h (.inl h')
  ·exact h (.inr ⟨r, hsubr r b hr⟩)
 have hk : ∀ p, q009 p w w := fun p _ _ _ _ _ h => h
 refine ⟨hs, upd fp q fp', g.size, g.defers, fun i => (g.env i).mono (hk _) hO (fun _ _ h => h), fun r => ?_, fun r r' b h h' => g.disj r r' b (hsubr r b h) (hsubr r' b h'), fun r => ?_, fun r b h => g.foreign r b (hsubr r b h), g.xold, g.xout, fun r b h => g.mine r b (hsubr r b h), g.hist, fun r t lk h => ?_, g.hdr, g.small, g.pin⟩
 ·by_cases hr : r = q
  ·subst hr
   show q00d w _ hs (upd S.roots r (.live t' []) r) (hs r) (upd fp r fp' r)
   rw [q0x2, q0x2]
   exact ⟨x, hx, ho'.mono (fun _ _ _ _ _ h => h) hO (fun _ _ _ _ _ h => h), fun p hp => by simp at hp⟩
  ·show q00d w _ hs (upd S.roots q _ r) (hs r) (upd fp q fp' r)
   rw [q0x1 _ _ _ _ hr, q0x1 _ _ _ _ hr]
   exact g.keepRoot r (hk _) hO (fun _ _ h => h) rfl (fun b _ => rfl)
 ·by_cases hr : r = q
  ·subst hr; rw [q0x2]; exact hsub.nodup (g.nodup r)
  ·rw [q0x1 _ _ _ _ hr]; exact g.nodup r
 ·have h : upd S.roots q (.live t' []) r = .live t lk := h
  by_cases hr : r = q
  ·subst hr; rw [q0x2] at h; cases h; exact hrt
  ·rw [q0x1 _ _ _ _ hr] at h; exact g.rooty r t lk h
end Go.Ab

/- The abstract layer, part 39: a loop's state where a root that was handed over is known to be dead. -/
namespace Go.Ab
theorem Weak.kill {n : Nat} {S : St} (d : Nat) (h : S.roots d = .free) : Weak n S ⟨S.env, upd S.roots d .dead⟩ := by
 intro X w0 O0 a w hs fp g
 have hd := g.root d
 rw [h] at hd
 refine ⟨hs, fp, g.size, g.defers, g.env, fun r => ?_, g.disj, g.nodup, g.foreign, g.xold, g.xout, g.mine, g.hist, fun r t lk hr => ?_, g.hdr, g.small, g.pin⟩
 ·by_cases hr : r = d
  ·subst hr
   show q00d w _ hs (upd S.roots r .dead r) (hs r) (fp r)
   rw [q0x2]; exact hd.2
  ·show q00d w _ hs (upd S.roots d .dead r) (hs r) (fp r)
   rw [q0x1 _ _ _ _ hr]; exact g.root r
 ·have h2 : upd S.roots d .dead r = .live t lk := hr
  by_cases hr2 : r = d
  ·subst hr2; rw [q0x2] at h2; cases h2
  ·rw [q0x1 _ _ _ _ hr2] at h2; exact g.rooty r t lk h2
def St.ofD (e : List (Nat × A)) (r : List (Nat × T)) (d : Nat) : St := ⟨q0ke e, upd (q0kh r) d .dead⟩
theorem Weak.ofD {n : Nat} {S : St} (e : List (Nat × A)) (r : List (Nat × T)) (d : Nat) (ss : List (Option Nat)) (hd : (((r.map (·.1)).zip ss).filterMap (·.2)).Nodup) (hb : ∀ p ∈ (r.map (·.1)).zip ss, p.1 < 1000000000 ∨ p.2 = some p.1) (hf : q0kh r d = .free) (he : q08f S (piOf r ss) e) (hr : q0py S r ss) : Weak n S (St.ofD e r d) :=
 Weak.trans (Weak.of e r ss hd hb he hr) (Weak.kill d hf)
attribute [go_sem] St.ofD
end Go.Ab

/- The abstract layer, part 55: calls and functions under something known of memory. -/
namespace Go.Ab
section
variable {P : Program} {n : Nat} {S : St}
theorem Fun.ofG {H : Hints} {f : FuncId} {fn : Func} {code : Code} {c : CC} {rin : List T} {args : List A} {Q : List T -> T -> Prop} (gg : T) (hf : P.funcs[f]? = some fn) (hb : fn.body = some code) (hn : fn.ntmps = n) {rv : List ResultVar} (hrv : fn.results.toList = rv) (hc : trC P n H code = some c) (ha : args.length <= n) (hsm : n <= 100000)
  (h : cW P n c (retP P rv rin.length Q) (St.of ((1000000, .t gg) :: enum 0 args) (enum 1000000000 rin))) : FunG P gg f rin args Q :=
 Fun.introG gg hf hb hn ha hsm ((q031 _ _ _ h _ _ hc).mono fun e S' q => by
  subst hrv
  have key : retP P fn.results.toList rin.length Q .ret S' -> retQ P fn.results.toList rin.length Q .ret S' := fun q => by
   simp only [retP, retQ] at q ⊢
   exact q0ph _ (fun ts S'' h1 => q0q1 _ _ (fun rout h2 => ⟨_, .refl _, h2⟩) h1) q
  cases e with
  | normal => exact key q
  | ret => exact key q
  | _ => exact q.elim)
theorem q006.useG {gg : T} (hgg : S.env 1000000 = .t gg) {d : Option Nat} {fo : Operand} {as : List Operand} {K : St -> Prop} {f : FuncId} {cap : List A} (hfo : fnA (S.ev fo) = some (f, cap)) (hcall : ∀ args w, (callFunc f args).run P w = .ok (.enter f args) w) {rin : List T} {args : List A} {Q : List T -> T -> Prop} (hF : FunG P gg f rin args Q)
  (srcs bor : List Nat) (hsn : srcs.Nodup) (hsrc : q0tg S srcs rin) (hsb : ∀ q ∈ bor, q ∉ srcs) (hargs : vaL S srcs bor args (as.map S.ev ++ cap))
  (hk : ∀ rout res, Q rout res -> (bor = [] ∨ (res.noSh /\ T.noShL rout)) /\ q00p S d srcs rout res K) : q006 P n d fo as K S := by
 intro o ts ho hd hdn
 subst hd
 exact OpW.callG (.inr hgg) ho hdn hfo hcall hF srcs bor hsn hsrc hsb (by simpa using hargs) hk
theorem q006.pureG {gg : T} {d : Nat} {fo : Operand} {as : List Operand} {K : St -> Prop} {f : FuncId} {cap : List A} {args : List T} {res : T} {x : A} (hF : FunG P gg f [] (args.map A.t) fun o r => o = [] /\ r = res) (hgg : S.env 1000000 = .t gg) (bor : List Nat) (hfo : fnA (S.ev fo) = some (f, cap)) (hcall : ∀ args w, (callFunc f args).run P w = .ok (.enter f args) w)
  (hargs : vaL S [] bor (args.map A.t) (as.map S.ev ++ cap)) (hns : res.noSh) (hx : absT d 0 res = (x, [], 0)) (hk : K { S with env := upd S.env d x }) : q006 P n (some d) fo as K S := by
 refine q006.useG hgg hfo hcall hF [] bor (by simp) trivial (fun q _ => by simp) hargs fun rout res' h => ?_
 obtain ⟨rfl, rfl⟩ := h
 refine ⟨.inr ⟨hns, trivial⟩, ?_⟩
 simp only [q00p, hx]
 exact ⟨trivial, by simp, hk⟩
theorem q004.pureG {gg : T} {fo : Operand} {as : List Operand} {ρ : Operand -> A} {R : Nat -> Root} {K : A -> Prop} {f : FuncId} {cap : List A} {args : List T} {res : T} (hF : FunG P gg f [] (args.map A.t) fun o r => o = [] /\ r = res) (hgg : ρ (.tmp 1000000) = .t gg) (bor : List Nat) (hfo : fnA (ρ fo) = some (f, cap)) (hcall : ∀ args w, (callFunc f args).run P w = .ok (.enter f args) w)
  (hargs : ∀ e R', (∀ r, R r = .free ∨ R' r = R r) -> vaL ⟨e, R'⟩ [] bor (args.map A.t) (as.map ρ ++ cap)) (hns : res.noSh) (hx : ∀ d, absT d 0 res = ((absT 0 0 res).1, [], 0)) (hk : K (absT 0 0 res).1) : q004 P n fo as ρ R K := by
 refine ⟨_, hk, fun d e R' Kc h1 h2 h3 => ?_⟩
 have hg : e 1000000 = .t gg := (h2 (.tmp 1000000) (by simp)).trans hgg
 refine q006.pureG hF hg bor (by rw [h2 fo (by simp)]; exact hfo) hcall ?_ hns (hx d) h3
 have : as.map (St.ev ⟨e, R'⟩) = as.map ρ := List.map_congr_left fun y hy => h2 y (by simp [hy])
 rw [this]
 exact hargs e R' h1
end
end Go.Ab
