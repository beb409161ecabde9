/- The abstract layer, part 22: operations that only give a value: which slots they look at, and that their value is determined. -/
import Derived.Test.YtbilpaghpgomeaaQ1
set_option linter.unusedSimpArgs false
set_option linter.unusedVariables false
namespace Go.Ab

def CO.reads : CO → List Operand
  | .move _ x | .un _ _ x | .extract _ x _ | .lenS _ x | .lenT _ x | .fld _ _ x | .load1 _ x | .loadN _ _ x | .box _ x | .conv _ _ x | .nilc _ x => [x]
  | .pick _ c x y => [c, x, y]
  | .bin _ _ x y | .beq _ _ x y | .idx _ _ x y | .store _ x y | .make _ _ _ x y | .app _ _ _ x y | .mm _ _ x y => [x, y]
  | .alloc _ _ => []
  | .build _ _ _ ps | .bslice _ _ _ ps => ps.map (·.2)
  | .mkf _ _ caps => caps
  | .call _ f as => f :: as
  | .bad _ => []
  | .beqS _ _ _ x y => [x, y]
  | .isNil _ _ x => [x]
  | .slc _ _ x lo hi => x :: (lo.toList ++ hi.toList)

/-- What a slot's load gives if no root changes by it. -/
def load1V (x : A) (S : St) (K : A → Prop) : Prop :=
  match x with
  | .t (.pin l off) => off < l.length ∧ ∀ c, l[off]? = some c → K (.t c)
  | .ptr r off => (match (S.roots r).cells with
    | some (l, lk) => off < l.length ∧ (match lk.lookup off with
      | some q => K (.own q)
      | none => ∀ c, l[off]? = some c → c.flat = true ∧ K (.t c))
    | none => False)
  | .own r => (match S.roots r with
    | .live (.box l) lk => 0 < l.length ∧ (match lk.lookup 0 with
      | some q => K (.own q)
      | none => ∀ c, l[0]? = some c → c.flat = true ∧ K (.t c))
    | _ => False)
  | _ => False
def loadNV (z : Nat) (x : A) (S : St) (K : A → Prop) : Prop :=
  match x with
  | .t (.pin l off) => off + z ≤ l.length ∧ K (.t (.agg ((l.drop off).take z)))
  | .ptr r off => (match (S.roots r).cells with
    | some (l, lk) => off + z ≤ l.length ∧ ((l.drop off).take z).all T.flat = true ∧ K (.t (.agg ((l.drop off).take z)))
    | none => False)
  | .own r => (match S.roots r with
    | .live (.box l) lk => z ≤ l.length ∧ (l.take z).all T.flat = true ∧ K (.t (.agg (l.take z)))
    | _ => False)
  | _ => False

/-- A call whose result is determined and that leaves the roots alone. -/
def CallV (P : Program) (n : Nat) (f : Operand) (as : List Operand) (ρ : Operand → A) (R : Nat → Root) (K : A → Prop) : Prop :=
  ∃ x, K x ∧ ∀ (d : Nat) (e : Nat → A) (R' : Nat → Root) (Kc : St → Prop), (∀ r, R r = .dead ∨ R' r = R r) → (∀ y, y ∈ f :: as → St.ev ⟨e, R'⟩ y = ρ y) → Kc ⟨upd e d x, R'⟩ → CallW P n (some d) f as Kc ⟨e, R'⟩

def coV (P : Program) (n : Nat) : CO → (Operand → A) → St → (A → Prop) → Prop
  | .move _ x, ρ, S, K => K (ρ x)
  | .pick _ c x y, ρ, S, K => pickC (ρ c) (ρ x) (ρ y) K
  | .bin _ op x y, ρ, S, K => binW op (ρ x) (ρ y) K
  | .beq _ ne x y, ρ, S, K => beqC ne (ρ x) (ρ y) K
  | .un _ op x, ρ, S, K => unW op (ρ x) K
  | .extract _ x i, ρ, S, K => extractW (ρ x) i K
  | .lenS _ x, ρ, S, K => lenC (ρ x) S K
  | .lenT _ x, ρ, S, K => lenTC (ρ x) K
  | .idx _ z x y, ρ, S, K => idxC z (ρ x) (ρ y) S K
  | .fld _ off x, ρ, S, K => fldC off (ρ x) S K
  | .load1 _ x, ρ, S, K => load1V (ρ x) S K
  | .loadN _ z x, ρ, S, K => loadNV z (ρ x) S K
  | .build _ zs pl parts, ρ, S, K => buildC zs pl (parts.map fun p => (p.1, ρ p.2)) K
  | .conv _ k x, ρ, S, K => convC k (ρ x) K
  | .nilc _ x, ρ, S, K => nilCheckW (ρ x) S K
  | .mkf _ f caps, ρ, S, K => K (.fn f (caps.map ρ))
  | .mm _ mx x y, ρ, S, K => mmW mx (ρ x) (ρ y) K
  | .call (some _) f as, ρ, S, K => CallV P n f as ρ S.roots K
  | .beqS _ ne m x y, ρ, S, K => beqSC ne m (ρ x) (ρ y) K
  | .slc _ z x lo hi, ρ, S, K => slcC z (ρ x) (lo.map ρ) (hi.map ρ) S K
  | _, _, _, _ => False

section
variable {P : Program} {n : Nat} {S : St}

theorem exists_of_lt {α : Type} {l : List α} {i : Nat} (h : i < l.length) : ∃ c, l[i]? = some c := ⟨_, List.getElem?_eq_getElem h⟩

theorem load1V_det {x : A} {K : A → Prop} (h : load1V x S K) : ∃ v, K v ∧ ∀ K' : A → Prop, K' v → load1V x S K' := by
  unfold load1V at h ⊢
  split at h
  · obtain ⟨c, hc⟩ := exists_of_lt h.1
    exact ⟨_, h.2 c hc, fun K' hK => ⟨h.1, fun c' hc' => by rw [hc] at hc'; cases hc'; exact hK⟩⟩
  · split at h
    · split at h
      · exact ⟨_, h.2, fun K' hK => ⟨h.1, hK⟩⟩
      · obtain ⟨c, hc⟩ := exists_of_lt h.1
        exact ⟨_, (h.2 c hc).2, fun K' hK => ⟨h.1, fun c' hc' => by rw [hc] at hc'; cases hc'; exact ⟨(h.2 c hc).1, hK⟩⟩⟩
    · exact h.elim
  · split at h
    · split at h
      · exact ⟨_, h.2, fun K' hK => ⟨h.1, hK⟩⟩
      · obtain ⟨c, hc⟩ := exists_of_lt h.1
        exact ⟨_, (h.2 c hc).2, fun K' hK => ⟨h.1, fun c' hc' => by rw [hc] at hc'; cases hc'; exact ⟨(h.2 c hc).1, hK⟩⟩⟩
    · exact h.elim
  · exact h.elim

theorem binI_det {op : BinOp} {k : IntKind} {a b : Int} {K : A → Prop} (h : binI op k a b K) : ∃ v, K v ∧ ∀ K' : A → Prop, K' v → binI op k a b K' := by
  cases op <;> simp only [binI] at h ⊢ <;> first
    | exact h.elim
    | exact ⟨_, h, fun _ h => h⟩
    | exact ⟨_, h.2, fun _ h' => ⟨h.1, h'⟩⟩

theorem coV_det {c : CO} {ρ : Operand → A} {K : A → Prop} (h : coV P n c ρ S K) : ∃ v, K v ∧ ∀ K' : A → Prop, K' v → coV P n c ρ S K' := by
  unfold coV at h
  split at h
  · exact ⟨_, h, fun _ h => h⟩
  · unfold pickC at h
    unfold coV pickC
    split at h
    · rename_i b hb
      cases b
      · exact ⟨_, h.2 rfl, fun K' hK => by simp only [hb]; exact ⟨fun e => (by cases e), fun _ => hK⟩⟩
      · exact ⟨_, h.1 rfl, fun K' hK => by simp only [hb]; exact ⟨fun _ => hK, fun e => (by cases e)⟩⟩
    · exact h.elim
  · unfold binW at h
    unfold coV binW
    split at h
    · rename_i hx hy
      obtain ⟨v, h1, h2⟩ := binI_det h.2
      exact ⟨v, h1, fun K' hK => by simp only [hx, hy]; exact ⟨h.1, h2 K' hK⟩⟩
    · exact h.elim
  · unfold beqC at h
    unfold coV beqC
    split at h
    · rename_i hx hy; exact ⟨_, h, fun K' hK => by simp only [hx, hy]; exact hK⟩
    · exact h.elim
  · unfold unW at h
    unfold coV unW
    split at h
    · rename_i hx; exact ⟨_, h, fun K' hK => by simp only [hx]; exact hK⟩
    · rename_i hx; exact ⟨_, h, fun K' hK => by simp only [hx]; exact hK⟩
    · exact h.elim
  · unfold extractW at h
    unfold coV extractW
    split at h
    · rename_i hx; obtain ⟨a, ha, hK⟩ := h; exact ⟨_, hK, fun K' hK => by simp only [hx]; exact ⟨a, ha, hK⟩⟩
    · rename_i hx; obtain ⟨a, ha, hK⟩ := h; exact ⟨_, hK, fun K' hK => by simp only [hx]; exact ⟨a, ha, hK⟩⟩
    · exact h.elim
  · unfold lenC at h
    unfold coV lenC
    split at h
    · rename_i hx; exact ⟨_, h, fun K' hK => by simp only [hx]; exact hK⟩
    · rename_i hx; exact ⟨_, h.2, fun K' hK => by simp only [hx]; exact ⟨h.1, hK⟩⟩
    · rename_i hx
      split at h
      · rename_i hr; exact ⟨_, h.2, fun K' hK => by simp only [hx, hr]; exact ⟨h.1, hK⟩⟩
      · exact h.elim
    · rename_i hx; exact ⟨_, h, fun K' hK => by simp only [hx]; exact hK⟩
    · exact h.elim
  · unfold lenTC at h
    unfold coV lenTC
    split at h
    · rename_i hx; exact ⟨_, h, fun K' hK => by simp only [hx]; exact hK⟩
    · exact h.elim
  · unfold idxC at h
    unfold coV idxC
    split at h
    · rename_i hy
      obtain ⟨h0, h⟩ := h
      split at h
      · rename_i hx; exact ⟨_, h.2.2, fun K' hK => by simp only [hx, hy]; exact ⟨h0, h.1, h.2.1, hK⟩⟩
      · rename_i hx
        split at h
        · rename_i hr; exact ⟨_, h.2.2, fun K' hK => by simp only [hx, hy, hr]; exact ⟨h0, h.1, h.2.1, hK⟩⟩
        · exact h.elim
      · rename_i hx; exact ⟨_, h.2, fun K' hK => by simp only [hx, hy]; exact ⟨h0, h.1, hK⟩⟩
      · exact h.elim
    · exact h.elim
  · unfold fldC at h
    unfold coV fldC
    split at h
    · rename_i hx; exact ⟨_, h, fun K' hK => by simp only [hx]; exact hK⟩
    · rename_i hx; exact ⟨_, h, fun K' hK => by simp only [hx]; exact hK⟩
    · rename_i hx
      split at h
      · rename_i hr; exact ⟨_, h, fun K' hK => by simp only [hx, hr]; exact hK⟩
      · exact h.elim
    · exact h.elim
  · exact load1V_det h
  · unfold loadNV at h
    unfold coV loadNV
    split at h
    · rename_i hx; exact ⟨_, h.2, fun K' hK => by simp only [hx]; exact ⟨h.1, hK⟩⟩
    · rename_i hx
      split at h
      · rename_i hr; exact ⟨_, h.2.2, fun K' hK => by simp only [hx, hr]; exact ⟨h.1, h.2.1, hK⟩⟩
      · exact h.elim
    · rename_i hx
      split at h
      · rename_i hr; exact ⟨_, h.2.2, fun K' hK => by simp only [hx, hr]; exact ⟨h.1, h.2.1, hK⟩⟩
      · exact h.elim
    · exact h.elim
  · unfold buildC at h
    unfold coV buildC
    split at h
    · rename_i hx; exact ⟨_, h, fun K' hK => by simp only [hx]; exact hK⟩
    · exact h.elim
  · unfold convC at h
    unfold coV convC
    split at h
    · rename_i hx; exact ⟨_, h, fun K' hK => by simp only [hx]; exact hK⟩
    · exact h.elim
  · unfold nilCheckW at h
    unfold coV nilCheckW
    split at h
    · rename_i hx; exact ⟨_, h, fun K' hK => by simp only [hx]; exact hK⟩
    · rename_i hx
      split at h
      · rename_i hr; exact ⟨_, h, fun K' hK => by simp only [hx, hr]; exact hK⟩
      · exact h.elim
    · rename_i hx; exact ⟨_, h, fun K' hK => by simp only [hx]; exact hK⟩
    · rename_i hx; exact ⟨_, h, fun K' hK => by simp only [hx]; exact hK⟩
    · exact h.elim
  · exact ⟨_, h, fun _ h => h⟩
  · unfold mmW at h
    unfold coV mmW
    split at h
    · rename_i hx hy; exact ⟨_, h, fun K' hK => by simp only [hx, hy]; exact hK⟩
    · exact h.elim
  · obtain ⟨x, hK, hall⟩ := h
    exact ⟨x, hK, fun K' hK' => ⟨x, hK', hall⟩⟩
  · unfold beqSC at h
    unfold coV beqSC
    split at h
    · rename_i hx hy; exact ⟨_, h.2.2, fun K' hK => by simp only [hx, hy]; exact ⟨h.1, h.2.1, hK⟩⟩
    · exact h.elim
  · unfold slcC at h
    unfold coV slcC
    split at h
    · rename_i hx; exact ⟨_, h.2.2, fun K' hK => by simp only [hx]; exact ⟨h.1, h.2.1, hK⟩⟩
    · rename_i hx
      split at h
      · rename_i h1 h2; exact ⟨_, h.2.2.2, fun K' hK => by simp only [hx, h1, h2]; exact ⟨h.1, h.2.1, h.2.2.1, hK⟩⟩
      · exact h.elim
    · rename_i hx
      split at h
      · rename_i hr
        split at h
        · rename_i h1 h2; exact ⟨_, h.2.2.2, fun K' hK => by simp only [hx, hr, h1, h2]; exact ⟨h.1, h.2.1, h.2.2.1, hK⟩⟩
        · exact h.elim
      · exact h.elim
    · exact h.elim
  · exact h.elim

theorem coV_congr {c : CO} {ρ ρ' : Operand → A} {K : A → Prop} (hρ : ∀ x ∈ c.reads, ρ' x = ρ x) (h : coV P n c ρ S K) : coV P n c ρ' S K := by
  cases c <;> simp only [CO.reads, List.mem_cons, List.not_mem_nil, or_false, forall_eq_or_imp, forall_eq] at hρ <;> simp only [coV] at h ⊢
  case build zs pl parts =>
    have : (parts.map fun p => (p.1, ρ' p.2)) = parts.map fun p => (p.1, ρ p.2) := List.map_congr_left fun p hp => by rw [hρ _ (List.mem_map.2 ⟨p, hp, rfl⟩)]
    rw [this]; exact h
  case mkf d f caps =>
    have : caps.map ρ' = caps.map ρ := List.map_congr_left fun p hp => hρ p hp
    rw [this]; exact h
  case call d f as =>
    cases d with
    | none => exact h
    | some d =>
      obtain ⟨x, hK, hall⟩ := h
      refine ⟨x, hK, fun d e R' Kc h1 h2 h3 => hall d e R' Kc h1 (fun y hy => (h2 y hy).trans ?_) h3⟩
      rcases List.mem_cons.1 hy with rfl | hy
      · exact hρ.1
      · exact hρ.2 y hy
  case slc d z x lo hi =>
    have h1 : lo.map ρ' = lo.map ρ := by
      cases lo with
      | none => rfl
      | some y => simp [hρ.2 y (by simp)]
    have h2 : hi.map ρ' = hi.map ρ := by
      cases hi with
      | none => rfl
      | some y => simp [hρ.2 y (by simp)]
    rw [hρ.1, h1, h2]; exact h
  all_goals first
    | exact h
    | (rw [hρ]; exact h)
    | (rw [hρ.1, hρ.2]; exact h)
    | (rw [hρ.1, hρ.2.1, hρ.2.2]; exact h)

/-- What holds where no root can be read holds with any roots. -/
theorem coV_dead {c : CO} {ρ : Operand → A} {K : A → Prop} {e : Nat → A} (h : coV P n c ρ ⟨e, fun _ => .dead⟩ K) : coV P n c ρ S K := by
  cases c <;> simp only [coV] at h ⊢
  case lenS => unfold lenC at h ⊢; split at h <;> first | exact h | exact h.elim
  case idx =>
    unfold idxC at h ⊢
    split at h
    · refine ⟨h.1, ?_⟩
      have h2 := h.2
      split at h2 <;> first | exact h2 | exact h2.elim
    · exact h.elim
  case fld => unfold fldC at h ⊢; split at h <;> first | exact h | exact h.elim
  case load1 => unfold load1V at h ⊢; split at h <;> first | exact h | exact h.elim
  case loadN => unfold loadNV at h ⊢; split at h <;> first | exact h | exact h.elim
  case nilc => unfold nilCheckW at h ⊢; split at h <;> first | exact h | exact h.elim
  case slc => unfold slcC at h ⊢; split at h <;> first | exact h | exact h.elim
  case call d f as =>
    cases d with
    | none => exact h
    | some d =>
      obtain ⟨x, hK, hall⟩ := h
      exact ⟨x, hK, fun d e' R' Kc h1 h2 h3 => hall d e' R' Kc (fun r => .inl rfl) h2 h3⟩
  all_goals exact h

theorem coV_sound {c : CO} {d : Nat} (hd : c.dst = some d) {K : St → Prop} (h : coV P n c S.ev S (putK S d K)) : coW P n c K S := by
  cases c <;> simp only [CO.dst, Option.some.injEq, reduceCtorEq] at hd <;> simp only [coV] at h <;> simp only [coW] <;> (try subst hd) <;> try exact h
  case load1 d x =>
    unfold load1V at h
    unfold load1C
    split at h
    · rename_i hx; rw [hx]; exact h
    · rename_i hx; rw [hx]
      split at h
      · rename_i hr; simp only [hr]
        refine ⟨h.1, ?_⟩
        have h2 := h.2
        split at h2
        · rename_i hl; simp only [hl]; exact h2
        · rename_i hl; simp only [hl]
          intro c hc
          have h3 := h2 c hc
          cases c <;> first | exact h3 | (simp [T.flat] at h3)
      · exact h.elim
    · rename_i hx; rw [hx]
      split at h
      · rename_i hr; simp only [hr]
        refine ⟨h.1, ?_⟩
        have h2 := h.2
        split at h2
        · rename_i hl; simp only [hl]; exact h2
        · rename_i hl; simp only [hl]
          intro c hc
          have h3 := h2 c hc
          cases c <;> first | exact h3 | (simp [T.flat] at h3)
      · exact h.elim
    · exact h.elim
  case call f as =>
    obtain ⟨x, hK, hall⟩ := h
    exact hall d S.env S.roots K (fun r => .inr rfl) (fun y _ => rfl) hK
end
end Go.Ab

/- The abstract layer, part 23: operations that change roots: what they do is determined by the slots that they look at and by the roots. -/
set_option linter.unusedSimpArgs false
set_option linter.unusedVariables false
namespace Go.Ab

def putE (e : Nat → A) (d : Option Nat) (x : A) : Nat → A := match d with | some d => upd e d x | none => e

def CO.heavy : CO → Bool
  | .store .. | .alloc .. | .box .. | .bslice .. | .make .. | .app .. | .load1 .. | .call .. => true
  | _ => false

/-- A call whose outcome is determined. -/
def CallH (P : Program) (n : Nat) (d : Option Nat) (f : Operand) (as : List Operand) (K : St → Prop) (S : St) : Prop :=
  ∃ x R', K ⟨putE S.env d x, R'⟩ ∧ ∀ (e : Nat → A) (Kc : St → Prop), (∀ y, y ∈ f :: as → St.ev ⟨e, S.roots⟩ y = S.ev y) → Kc ⟨putE e d x, R'⟩ → CallW P n d f as Kc ⟨e, S.roots⟩

def coH (P : Program) (n : Nat) : CO → (St → Prop) → St → Prop
  | .call d f as, K, S => CallH P n d f as K S
  | c, K, S => coW P n c K S

section
variable {P : Program} {n : Nat} {S : St}

theorem giveW_loc {a : A} {K : T → St → Prop} (h : giveW S a K) : ∃ t R', K t ⟨S.env, R'⟩ ∧ ∀ e (K' : T → St → Prop), K' t ⟨e, R'⟩ → giveW ⟨e, S.roots⟩ a K' := by
  unfold giveW at h ⊢
  split at h
  · exact ⟨_, S.roots, h.2, fun e K' hK => ⟨h.1, hK⟩⟩
  · split at h
    · rename_i hr
      exact ⟨_, _, h, fun e K' hK => by simp only [hr]; exact hK⟩
    · exact h.elim
  · exact h.elim

theorem giveL_loc : ∀ {as : List A} {S : St} {K : List T → St → Prop}, giveL S as K → ∃ ts R', K ts ⟨S.env, R'⟩ ∧ ∀ e (K' : List T → St → Prop), K' ts ⟨e, R'⟩ → giveL ⟨e, S.roots⟩ as K'
  | [], S, K, h => ⟨[], S.roots, h, fun _ _ h => h⟩
  | a :: as, S, K, h => by
    obtain ⟨t, R1, h1, h2⟩ := giveW_loc (h : giveW S a _)
    obtain ⟨ts, R2, h3, h4⟩ := giveL_loc h1
    exact ⟨t :: ts, R2, h3, fun e K' hK => h2 e _ (h4 e _ hK)⟩

theorem baseW_loc {x : A} {z : Nat} {K : List T → St → Prop} (h : baseW S x z K) : ∃ t R', K t ⟨S.env, R'⟩ ∧ ∀ e (K' : List T → St → Prop), K' t ⟨e, R'⟩ → baseW ⟨e, S.roots⟩ x z K' := by
  unfold baseW at h ⊢
  split at h
  · exact ⟨_, S.roots, h, fun e K' hK => hK⟩
  · split at h
    · rename_i hr
      exact ⟨_, _, h.2, fun e K' hK => by simp only [hr]; exact ⟨h.1, hK⟩⟩
    · exact h.elim
  · exact h.elim

theorem srcW_loc {x : A} {z : Nat} {K : List T → St → Prop} (h : srcW S x z K) : ∃ t R', K t ⟨S.env, R'⟩ ∧ ∀ e (K' : List T → St → Prop), K' t ⟨e, R'⟩ → srcW ⟨e, S.roots⟩ x z K' := by
  unfold srcW at h ⊢
  split at h
  · exact ⟨_, S.roots, h, fun e K' hK => hK⟩
  · exact ⟨_, S.roots, h.2.2, fun e K' hK => ⟨h.1, h.2.1, hK⟩⟩
  · rename_i q
    split at h
    · rename_i s l hr
      obtain ⟨h1, h2, h3⟩ := h
      cases hf : l.all T.flat
      · rw [hf] at h3
        exact ⟨l, _, h3, fun e K' hK => by simp only [hr]; exact ⟨h1, h2, by rw [hf]; exact hK⟩⟩
      · rw [hf] at h3
        exact ⟨l, _, h3, fun e K' hK => by simp only [hr]; exact ⟨h1, h2, by rw [hf]; exact hK⟩⟩
    · exact h.elim
  · split at h
    · rename_i hr
      exact ⟨_, S.roots, h.2.2.2.2, fun e K' hK => by simp only [hr]; exact ⟨h.1, h.2.1, h.2.2.1, h.2.2.2.1, hK⟩⟩
    · exact h.elim
  · exact h.elim

theorem newK_loc {d : Nat} {mk : List T → T} {K : St → Prop} {ts : List T} (h : newK d mk K ts S) : ∃ x R', K ⟨upd S.env d x, R'⟩ ∧ ∀ e (K' : St → Prop), K' ⟨upd e d x, R'⟩ → newK d mk K' ts ⟨e, S.roots⟩ :=
  ⟨_, _, h.2, fun e K' hK => ⟨h.1, hK⟩⟩

theorem storeK_loc {r off z : Nat} {K : St → Prop} {ts : List T} (h : storeK r off z K ts S) : ∃ R', K ⟨S.env, R'⟩ ∧ ∀ e (K' : St → Prop), K' ⟨e, R'⟩ → storeK r off z K' ts ⟨e, S.roots⟩ := by
  unfold storeK at h ⊢
  split at h
  · rename_i hr
    exact ⟨_, h.2.2, fun e K' hK => by simp only [hr]; exact ⟨h.1, h.2.1, hK⟩⟩
  · exact h.elim

theorem loadC_loc {r off d : Nat} {l : List T} {lk : List (Nat × Nat)} {c : T} {K : St → Prop} (h : loadC S r off d l lk c K) :
    ∃ x R', K ⟨upd S.env d x, R'⟩ ∧ ∀ e (K' : St → Prop), K' ⟨upd e d x, R'⟩ → loadC ⟨e, S.roots⟩ r off d l lk c K' := by
  unfold loadC at h ⊢
  split at h
  · exact ⟨_, _, h.2, fun e K' hK => ⟨h.1, hK⟩⟩
  · exact ⟨_, _, h.2, fun e K' hK => ⟨h.1, hK⟩⟩
  · exact ⟨_, S.roots, h.2, fun e K' hK => ⟨h.1, hK⟩⟩

theorem addrA_env (e : Nat → A) (x : A) : addrA ⟨e, S.roots⟩ x = addrA S x := rfl

theorem load1C_loc {x : A} {d : Nat} {K : St → Prop} (h : load1C x d K S) : ∃ v R', K ⟨upd S.env d v, R'⟩ ∧ ∀ e (K' : St → Prop), K' ⟨upd e d v, R'⟩ → load1C x d K' ⟨e, S.roots⟩ := by
  unfold load1C at h ⊢
  split at h
  · obtain ⟨c, hc⟩ := exists_of_lt h.1
    exact ⟨_, S.roots, h.2 c hc, fun e K' hK => ⟨h.1, fun c' hc' => by rw [hc] at hc'; cases hc'; exact hK⟩⟩
  · split at h
    · rename_i hr
      obtain ⟨h0, h⟩ := h
      split at h
      · rename_i hl
        exact ⟨_, S.roots, h, fun e K' hK => by simp only [hr, hl]; exact ⟨h0, hK⟩⟩
      · rename_i hl
        obtain ⟨c, hc⟩ := exists_of_lt h0
        obtain ⟨v, R', h1, h2⟩ := loadC_loc (h c hc)
        exact ⟨v, R', h1, fun e K' hK => by simp only [hr, hl]; exact ⟨h0, fun c' hc' => by rw [hc] at hc'; cases hc'; exact h2 e K' hK⟩⟩
    · exact h.elim
  · split at h
    · rename_i hr
      obtain ⟨h0, h⟩ := h
      split at h
      · rename_i hl
        exact ⟨_, S.roots, h, fun e K' hK => by simp only [hr, hl]; exact ⟨h0, hK⟩⟩
      · rename_i hl
        obtain ⟨c, hc⟩ := exists_of_lt h0
        obtain ⟨v, R', h1, h2⟩ := loadC_loc (h c hc)
        exact ⟨v, R', h1, fun e K' hK => by simp only [hr, hl]; exact ⟨h0, fun c' hc' => by rw [hc] at hc'; cases hc'; exact h2 e K' hK⟩⟩
    · exact h.elim
  · exact h.elim

/-- What an operation that changes roots does. -/
theorem coH_det {c : CO} {K : St → Prop} (hk : c.heavy = true) (h : coH P n c K S) :
    ∃ x R', K ⟨putE S.env c.dst x, R'⟩ ∧ ∀ (e : Nat → A) (Kc : St → Prop), (∀ y ∈ c.reads, St.ev ⟨e, S.roots⟩ y = S.ev y) → Kc ⟨putE e c.dst x, R'⟩ → coW P n c Kc ⟨e, S.roots⟩ := by
  cases c <;> simp only [CO.heavy, Bool.false_eq_true] at hk <;> simp only [coH, coW] at h <;> simp only [CO.dst, CO.reads, putE, coW, List.mem_cons, List.not_mem_nil, or_false, forall_eq_or_imp, forall_eq]
  case store z x v =>
    unfold storeC at h
    split at h
    · rename_i h1 h2
      obtain ⟨ts, R1, h3, h4⟩ := giveL_loc h.2
      obtain ⟨R2, h5, h6⟩ := storeK_loc h3
      refine ⟨.t .any, R2, h5, fun e Kc hr hK => ?_⟩
      unfold storeC
      rw [hr.1, hr.2, addrA_env, h1, h2]
      exact ⟨h.1, h4 e _ (h6 e _ hK)⟩
    · exact h.elim
  case alloc d zs =>
    obtain ⟨x, R', h1, h2⟩ := newK_loc h
    exact ⟨x, R', h1, fun e Kc _ hK => h2 e Kc hK⟩
  case box d x =>
    unfold boxW at h ⊢
    split at h
    · rename_i h1
      obtain ⟨ts, R1, h3, h4⟩ := giveL_loc h
      obtain ⟨y, R', h5, h6⟩ := newK_loc h3
      exact ⟨y, R', h5, fun e Kc hr hK => by rw [hr]; simp only [h1]; exact h4 e _ (h6 e _ hK)⟩
    · exact h.elim
  case bslice d z len parts =>
    unfold bsliceC at h ⊢
    split at h
    · rename_i h1
      obtain ⟨ts, R1, h3, h4⟩ := giveL_loc h
      obtain ⟨y, R', h5, h6⟩ := newK_loc h3
      refine ⟨y, R', h5, fun e Kc hr hK => ?_⟩
      have : (parts.map fun p => (p.1, St.ev ⟨e, S.roots⟩ p.2)) = parts.map fun p => (p.1, S.ev p.2) := List.map_congr_left fun p hp => by rw [hr _ (List.mem_map.2 ⟨p, hp, rfl⟩)]
      rw [this]; simp only [h1]; exact h4 e _ (h6 e _ hK)
    · exact h.elim
  case make d zs eb l c =>
    unfold makeC at h ⊢
    split at h
    · rename_i h1 h2
      obtain ⟨y, R', h5, h6⟩ := newK_loc h.2.2.2
      exact ⟨y, R', h5, fun e Kc hr hK => by rw [hr.1, hr.2]; simp only [h1, h2]; exact ⟨h.1, h.2.1, h.2.2.1, h6 e _ hK⟩⟩
    · exact h.elim
  case app d z eb b x =>
    obtain ⟨l1, R1, h1, h2⟩ := baseW_loc h
    obtain ⟨l2, R2, h3, h4⟩ := srcW_loc (show srcW _ _ _ _ from h1)
    obtain ⟨y, R', h5, h6⟩ := newK_loc (show newK _ _ _ _ _ from h3.2)
    refine ⟨y, R', h5, fun e Kc hr hK => ?_⟩
    rw [hr.1, hr.2]
    refine h2 e _ ?_
    exact h4 e _ ⟨h3.1, h6 e _ hK⟩
  case load1 d x =>
    obtain ⟨y, R', h5, h6⟩ := load1C_loc h
    exact ⟨y, R', h5, fun e Kc hr hK => by rw [hr]; exact h6 e _ hK⟩
  case call d f as =>
    obtain ⟨x, R', h1, h2⟩ := h
    exact ⟨x, R', h1, fun e Kc hr hK => h2 e Kc (fun y hy => by rcases List.mem_cons.1 hy with rfl | hy; exact hr.1; exact hr.2 y hy) hK⟩
end
end Go.Ab

/- The abstract layer, part 24: a region that draws its order. -/
set_option linter.unusedSimpArgs false
set_option linter.unusedVariables false
namespace Go.Ab

/-- The kind of an item: e looks at slots and shared data only, r reads roots too, h changes roots. -/
inductive DK where
  | e | r | h
deriving DecidableEq

def slotsOf (l : List Operand) : List Nat := l.filterMap fun | .tmp t => some t | _ => none
def CI.reads : CI → List Nat
  | .o c => slotsOf c.reads
  | .g s _ _ c => s :: slotsOf c.reads
def CI.dst : CI → Option Nat
  | .o c => c.dst
  | .g _ _ d _ => d
def itemOK : DK × CI → Bool
  | (k, .o c) => k != .h || c.heavy
  | (k, .g _ _ d c) => (k != .h || c.heavy) && d == c.dst

def putD (S : St) (d : Option Nat) (K : St → Prop) (a : A) : Prop := K ⟨putE S.env d a, S.roots⟩
theorem putD_apply (S : St) (d : Nat) (K : St → Prop) (a : A) : putD S (some d) K a = K ⟨upd S.env d a, S.roots⟩ := rfl

def valD (P : Program) (n : Nat) : DK → CO → (St → Prop) → St → Prop
  | .h, c, K, S => coH P n c K S
  | .r, c, K, S => coV P n c S.ev S (putD S c.dst K)
  | .e, c, K, S => coV P n c S.ev ⟨S.env, fun _ => .dead⟩ (putD S c.dst K)
def itemD (P : Program) (n : Nat) : DK → CI → (St → Prop) → St → Prop
  | k, .o c, K, S => valD P n k c K S
  | k, .g s want d c, K, S => guardC (S.env s) s want d (valD P n k c K) K S
def drawW (P : Program) (n : Nat) : List (DK × CI) → (St → Prop) → St → Prop
  | [], K, S => K S
  | (k, c) :: l, K, S => itemD P n k c (drawW P n l K) S

/-- What an item does, whoever else has run. -/
def LocAt (P : Program) (n : Nat) (k : DK) (c : CI) (S : St) (x : A) (R' : Nat → Root) : Prop :=
  ∀ (e : Nat → A) (R : Nat → Root) (Kc : St → Prop), (∀ s ∈ c.reads, e s = S.env s) → (k = .e ∨ R = S.roots) → Kc ⟨putE e c.dst x, if k = .h then R' else R⟩ → opsW P n [c] Kc ⟨e, R⟩

section
variable {P : Program} {n : Nat} {S : St}

theorem ev_agree {e e' : Nat → A} {R R' : Nat → Root} {l : List Operand} (h : ∀ s ∈ slotsOf l, e s = e' s) : ∀ y ∈ l, St.ev ⟨e, R⟩ y = St.ev ⟨e', R'⟩ y := by
  intro y hy
  cases y with
  | tmp t => exact h t (List.mem_filterMap.2 ⟨_, hy, rfl⟩)
  | _ => rfl

theorem valD_loc {k : DK} {c : CO} {K : St → Prop} (hk : (k != .h || c.heavy) = true) (h : valD P n k c K S) :
    ∃ x R', (k ≠ .h → R' = S.roots) ∧ K ⟨putE S.env c.dst x, R'⟩ ∧ ∀ (e : Nat → A) (R : Nat → Root) (Kc : St → Prop), (∀ s ∈ slotsOf c.reads, e s = S.env s) → (k = .e ∨ R = S.roots) → Kc ⟨putE e c.dst x, if k = .h then R' else R⟩ → coW P n c Kc ⟨e, R⟩ := by
  have val : ∀ S0 : St, coV P n c S.ev S0 (putD S c.dst K) → ∃ x, K ⟨putE S.env c.dst x, S.roots⟩ ∧ ∀ (e : Nat → A) (R : Nat → Root) (Kc : St → Prop), (∀ s ∈ slotsOf c.reads, e s = S.env s) → ((∀ K', coV P n c S.ev S0 K' → coV P n c S.ev ⟨e, R⟩ K')) → Kc ⟨putE e c.dst x, R⟩ → coW P n c Kc ⟨e, R⟩ := by
    intro S0 h
    obtain ⟨x, hK, hall⟩ := coV_det h
    refine ⟨x, hK, fun e R Kc he hR hKc => ?_⟩
    cases hd : c.dst with
    | none => cases c <;> simp only [CO.dst, reduceCtorEq] at hd <;> simp only [coV] at h <;> (try subst hd) <;> exact h.elim
    | some d =>
      refine coV_sound hd ?_
      refine coV_congr (ρ := S.ev) (fun y hy => ev_agree (R := R) (R' := S.roots) he y hy) ?_
      refine hR _ (hall _ ?_)
      rw [hd] at hKc; exact hKc
  cases k with
  | h =>
    have hk' : c.heavy = true := by simpa using hk
    obtain ⟨x, R', h1, h2⟩ := coH_det hk' h
    refine ⟨x, R', fun h => absurd rfl h, h1, fun e R Kc he hR hKc => ?_⟩
    have hR : R = S.roots := by rcases hR with h | h; exact absurd h (by simp); exact h
    subst hR
    exact h2 e Kc (fun y hy => ev_agree he y hy) hKc
  | r =>
    obtain ⟨x, h1, h2⟩ := val S h
    refine ⟨x, S.roots, fun _ => rfl, h1, fun e R Kc he hR hKc => ?_⟩
    have hR : R = S.roots := by rcases hR with h | h; exact absurd h (by simp); exact h
    subst hR
    refine h2 e _ Kc he (fun K' hK' => ?_) hKc
    revert hK'
    cases c <;> first
      | exact fun h => h
      | (rename_i d _ _; cases d <;> exact fun h => h)
  | e =>
    obtain ⟨x, h1, h2⟩ := val _ h
    exact ⟨x, S.roots, fun _ => rfl, h1, fun e R Kc he hR hKc => h2 e _ Kc he (fun K' hK' => coV_dead hK') hKc⟩

theorem itemD_loc {k : DK} {c : CI} {K : St → Prop} (hok : itemOK (k, c) = true) (h : itemD P n k c K S) :
    ∃ x R', (k ≠ .h → R' = S.roots) ∧ K ⟨putE S.env c.dst x, R'⟩ ∧ LocAt P n k c S x R' := by
  cases c with
  | o c => exact valD_loc hok h
  | g s want d c =>
    simp only [itemOK, Bool.and_eq_true, beq_iff_eq] at hok
    obtain ⟨hk, hd⟩ := hok
    simp only [itemD] at h
    unfold guardC at h
    split at h
    · rename_i b hb
      by_cases hbw : b = want
      · have h1 := h.1 hbw
        rw [env_upd_eq _ _ _ (by rw [hb, hbw])] at h1
        obtain ⟨x, R', h2, h3, h4⟩ := valD_loc hk h1
        refine ⟨x, R', h2, by simp only [CI.dst, hd]; exact h3, fun e R Kc he hR hKc => ?_⟩
        have hes : e s = .t (.v (.bool b)) := (he s (by simp [CI.reads])).trans hb
        simp only [opsW]
        unfold guardC
        simp only [hes]
        refine ⟨fun _ => ?_, fun e' => absurd (hbw.symm.trans e') (by cases want <;> simp)⟩
        rw [env_upd_eq _ _ _ (by rw [hes, hbw])]
        refine h4 e R _ (fun s' hs' => he s' (by simp only [CI.reads, List.mem_cons]; exact .inr hs')) hR ?_
        simp only [CI.dst, hd] at hKc
        exact hKc
      · have e' : b = !want := by cases b <;> cases want <;> simp_all
        have h1 := h.2 e'
        rw [env_upd_eq _ _ _ (by rw [hb, e'])] at h1
        refine ⟨.t .any, S.roots, fun _ => rfl, by cases d <;> exact h1, fun e R Kc he hR hKc => ?_⟩
        have hes : e s = .t (.v (.bool b)) := (he s (by simp [CI.reads])).trans hb
        simp only [opsW]
        unfold guardC
        simp only [hes]
        refine ⟨fun h => absurd h hbw, fun _ => ?_⟩
        rw [env_upd_eq _ _ _ (by rw [hes, e'])]
        have hR' : (if k = .h then S.roots else R) = R := by
          split
          · rename_i hkh; rcases hR with h | h
            · rw [hkh] at h; cases h
            · exact h.symm
          · rfl
        rw [hR'] at hKc
        cases d <;> exact hKc
    · exact h.elim

def dstAt (l : List (DK × CI)) (i : Nat) : Option Nat := (l[i]?).bind fun p => p.2.dst

/-- The slots behind the first i items. -/
def envAt (l : List (DK × CI)) (v : Nat → A) (e : Nat → A) : Nat → Nat → A
  | 0 => e
  | i + 1 => putE (envAt l v e i) (dstAt l i) (v i)

theorem envAt_cons {p : DK × CI} {l : List (DK × CI)} {v : Nat → A} {e : Nat → A} : ∀ i, envAt (p :: l) v e (i + 1) = envAt l (fun i => v (i + 1)) (putE e p.2.dst (v 0)) i
  | 0 => rfl
  | i + 1 => by
    have ih := envAt_cons (p := p) (l := l) (v := v) (e := e) i
    show putE (envAt (p :: l) v e (i + 1)) (dstAt (p :: l) (i + 1)) (v (i + 1)) = _
    rw [ih]; rfl

theorem draw_chain {K : St → Prop} : ∀ (l : List (DK × CI)) (S : St), (∀ p ∈ l, itemOK p = true) → drawW P n l K S → ∃ (v : Nat → A) (rt : Nat → Nat → Root), rt 0 = S.roots ∧
    (∀ i (h : i < l.length), (l[i].1 ≠ .h → rt (i + 1) = rt i) ∧ LocAt P n l[i].1 l[i].2 ⟨envAt l v S.env i, rt i⟩ (v i) (rt (i + 1))) ∧ K ⟨envAt l v S.env l.length, rt l.length⟩
  | [], S, _, h => ⟨fun _ => .t .any, fun _ => S.roots, rfl, fun i h => absurd h (by simp), h⟩
  | (k, c) :: l, S, hok, h => by
    obtain ⟨x, R', h1, h2, h3⟩ := itemD_loc (hok (k, c) (by simp)) (h : itemD P n k c (drawW P n l K) S)
    obtain ⟨v, rt, h4, h5, h6⟩ := draw_chain l _ (fun p hp => hok p (List.mem_cons_of_mem _ hp)) h2
    refine ⟨fun i => match i with | 0 => x | i + 1 => v i, fun i => match i with | 0 => S.roots | i + 1 => rt i, rfl, fun i hi => ?_, ?_⟩
    · cases i with
      | zero => exact ⟨fun hk => h4.trans (h1 hk), show LocAt P n k c S x (rt 0) by rw [show rt 0 = R' from h4]; exact h3⟩
      | succ i =>
        have hi' : i < l.length := by simpa using hi
        refine ⟨(h5 i hi').1, ?_⟩
        rw [envAt_cons]
        exact (h5 i hi').2
    · simp only [List.length_cons]
      rw [envAt_cons]
      exact h6

-- the order
def kAt (l : List (DK × CI)) (i : Nat) : DK := ((l[i]?).map (·.1)).getD .e
def rdAt (l : List (DK × CI)) (i : Nat) : List Nat := ((l[i]?).map fun p => p.2.reads).getD []

/-- The state when the items of D have run. -/
def AtD (l : List (DK × CI)) (v : Nat → A) (rt : Nat → Nat → Root) (e0 : Nat → A) (D : Nat → Prop) (S : St) : Prop :=
  (∀ s, (∀ j, j < l.length → D j → dstAt l j = some s → S.env s = v j) ∧ ((∀ j, j < l.length → D j → dstAt l j ≠ some s) → S.env s = e0 s)) ∧
  ∀ k, k ≤ l.length → (∀ j, j < k → kAt l j = .h → D j) → (∀ j, k ≤ j → j < l.length → kAt l j = .h → ¬ D j) → S.roots = rt k

def Ord (l : List (DK × CI)) (D : Nat → Prop) (i : Nat) : Prop :=
  ∀ j, j < l.length → j ≠ i → (j < i ∧ D j) ∨ (i < j ∧ ¬ D j) ∨ ((∀ s ∈ rdAt l i, dstAt l j ≠ some s) ∧ ¬ (kAt l i = .h ∧ kAt l j ≠ .e) ∧ ¬ (kAt l j = .h ∧ kAt l i ≠ .e))

theorem envAt_spec {l : List (DK × CI)} {v : Nat → A} {e0 : Nat → A} (hd : ∀ i j, i < l.length → j < l.length → i ≠ j → ∀ s, dstAt l i = some s → dstAt l j ≠ some s) (s : Nat) : ∀ i, i ≤ l.length →
    (∀ j, j < i → dstAt l j = some s → envAt l v e0 i s = v j) ∧ ((∀ j, j < i → dstAt l j ≠ some s) → envAt l v e0 i s = e0 s)
  | 0, _ => ⟨fun j h => absurd h (by omega), fun _ => rfl⟩
  | i + 1, hi => by
    obtain ⟨h1, h2⟩ := envAt_spec (v := v) (e0 := e0) hd s i (by omega)
    simp only [envAt]
    by_cases hs : dstAt l i = some s
    · have hself : putE (envAt l v e0 i) (dstAt l i) (v i) s = v i := by rw [hs]; simp [putE, upd_self]
      refine ⟨fun j hj hjs => ?_, fun h => absurd hs (h i (by omega))⟩
      by_cases hji : j = i
      · subst hji; exact hself
      · exact absurd hs (hd j i (by omega) (by omega) hji s hjs)
    · have hoth : putE (envAt l v e0 i) (dstAt l i) (v i) s = envAt l v e0 i s := by
        cases hx : dstAt l i with
        | none => rfl
        | some d => exact upd_other _ _ _ _ fun e => hs (by rw [hx, e])
      rw [hoth]
      refine ⟨fun j hj hjs => ?_, fun h => h2 fun j hj => h j (by omega)⟩
      by_cases hji : j = i
      · subst hji; exact absurd hjs hs
      · exact h1 j (by omega) hjs

theorem rt_const {rt : Nat → Nat → Root} {H : Nat → Prop} {a : Nat} : ∀ k, (∀ j, a ≤ j → j < a + k → ¬ H j) → (∀ j, a ≤ j → j < a + k → ¬ H j → rt (j + 1) = rt j) → rt (a + k) = rt a
  | 0, _, _ => rfl
  | k + 1, h1, h2 => by
    rw [← Nat.add_assoc, h2 (a + k) (by omega) (by omega) (h1 _ (by omega) (by omega))]
    exact rt_const k (fun j h h' => h1 j h (by omega)) (fun j h h' => h2 j h (by omega))

theorem AtD.step {l : List (DK × CI)} {v : Nat → A} {rt : Nat → Nat → Root} {e0 : Nat → A} {D : Nat → Prop} (hd : ∀ i j, i < l.length → j < l.length → i ≠ j → ∀ s, dstAt l i = some s → dstAt l j ≠ some s)
    (hrt : ∀ j, j < l.length → kAt l j ≠ .h → rt (j + 1) = rt j) {i : Nat} (hi : i < l.length) (hself : ∀ s ∈ rdAt l i, dstAt l i ≠ some s) (hDi : ¬ D i) (ho : Ord l D i) (hAt : AtD l v rt e0 D S) :
    (∀ s ∈ rdAt l i, S.env s = envAt l v e0 i s) ∧ (kAt l i = .e ∨ S.roots = rt i) ∧
      AtD l v rt e0 (fun j => D j ∨ j = i) ⟨putE S.env (dstAt l i) (v i), if kAt l i = .h then rt (i + 1) else S.roots⟩ := by
  obtain ⟨hE, hR⟩ := hAt
  have h2 : kAt l i = .e ∨ S.roots = rt i := by
    by_cases hk : kAt l i = .e
    · exact .inl hk
    · right
      refine hR i (by omega) (fun j hj hjh => ?_) (fun j hj hjm hjh => ?_)
      · rcases ho j (by omega) (by omega) with h | h | h
        · exact h.2
        · omega
        · exact absurd ⟨hjh, hk⟩ h.2.2
      · by_cases hji : j = i
        · rw [hji]; exact hDi
        · rcases ho j hjm hji with h | h | h
          · omega
          · exact h.2
          · exact absurd ⟨hjh, hk⟩ h.2.2
  refine ⟨fun s hs => ?_, h2, fun s => ?_, fun k hk h1 h3 => ?_⟩
  · obtain ⟨ha, hb⟩ := envAt_spec (v := v) (e0 := e0) hd s i (by omega)
    obtain ⟨hc, hdd⟩ := hE s
    by_cases hex : ∃ j, j < l.length ∧ dstAt l j = some s
    · obtain ⟨j, hj, hjs⟩ := hex
      have hji : j ≠ i := fun e => hself s hs (e ▸ hjs)
      rcases ho j hj hji with h | h | h
      · rw [hc j hj h.2 hjs, ha j h.1 hjs]
      · rw [hdd fun j' hj' hD' hs' => ?_, hb fun j' hj' hs' => ?_]
        · by_cases e : j' = j
          · rw [e] at hj'; omega
          · exact hd j' j (by omega) hj e s hs' hjs
        · by_cases e : j' = j
          · rw [e] at hD'; exact h.2 hD'
          · exact hd j' j (by omega) hj e s hs' hjs
      · exact absurd hjs (h.1 s hs)
    · rw [hdd fun j hj _ hjs => hex ⟨j, hj, hjs⟩, hb fun j hj hjs => hex ⟨j, by omega, hjs⟩]
  · obtain ⟨hc, hdd⟩ := hE s
    by_cases hs : dstAt l i = some s
    · have e : putE S.env (dstAt l i) (v i) s = v i := by rw [hs]; simp [putE, upd_self]
      refine ⟨fun j hj hD hjs => ?_, fun h => absurd hs (h i hi (.inr rfl))⟩
      show putE S.env (dstAt l i) (v i) s = v j
      rw [e]
      by_cases hji : j = i
      · rw [hji]
      · exact absurd hs (hd j i hj hi hji s hjs)
    · have e : putE S.env (dstAt l i) (v i) s = S.env s := by
        cases hx : dstAt l i with
        | none => rfl
        | some d => exact upd_other _ _ _ _ fun e => hs (by rw [hx, e])
      refine ⟨fun j hj hD hjs => ?_, fun h => ?_⟩
      · show putE S.env (dstAt l i) (v i) s = v j
        rw [e]
        rcases hD with hD | rfl
        · exact hc j hj hD hjs
        · exact absurd hjs hs
      · show putE S.env (dstAt l i) (v i) s = e0 s
        rw [e]
        exact hdd fun j hj hD => h j hj (.inl hD)
  · by_cases hkh : kAt l i = .h
    · show (if kAt l i = .h then rt (i + 1) else S.roots) = rt k
      rw [if_pos hkh]
      have hik : i + 1 ≤ k := by
        rcases Nat.lt_or_ge i k with h | h
        · omega
        · exact absurd (.inr rfl) (h3 i h hi hkh)
      obtain ⟨c, rfl⟩ : ∃ c, k = i + 1 + c := ⟨k - (i + 1), by omega⟩
      refine (rt_const (H := fun j => kAt l j = .h) c (fun j hj hj' hjh => ?_) (fun j hj hj' => hrt j (by omega))).symm
      rcases h1 j hj' hjh with h | h
      · rcases ho j (by omega) (by omega) with h' | h' | h'
        · omega
        · exact h'.2 h
        · exact h'.2.1 ⟨hkh, by rw [hjh]; simp⟩
      · omega
    · show (if kAt l i = .h then rt (i + 1) else S.roots) = rt k
      rw [if_neg hkh]
      refine hR k hk (fun j hj hjh => ?_) (fun j hj hjm hjh hD => h3 j hj hjm hjh (.inl hD))
      rcases h1 j hj hjh with h | h
      · exact h
      · rw [h] at hjh; exact absurd hjh hkh
end
end Go.Ab

/- The abstract layer, part 26: the rule for a region that draws its order. -/
set_option linter.unusedSimpArgs false
set_option linter.unusedVariables false
namespace Go.Ab

section
variable {P : Program} {n : Nat} {S : St} {X : Nat → Prop} {w0 : World} {O0 : Fr} {a : Act} {w : World} {hs : Nat → Option Value} {fp : Nat → List Nat}

theorem Good.drawn (g : Good X w0 O0 n S a w hs fp) (k : Nat) : Good X w0 O0 n S a { w with drawn := k } hs fp := by
  have hk : Keeps (fun b => ¬ Ob X fp b) w { w with drawn := k } := fun b cs e fz _ h => h
  exact ⟨g.size, g.defers, fun i => (g.env i).mono hk (fun b h _ => h) (fun _ _ h => h), fun r => g.keepRoot r hk (fun b h _ => h) (fun _ _ h => h) rfl (fun b _ => rfl), g.disj, g.nodup, g.foreign, g.xold, g.xout, g.mine, ⟨g.hist.os, g.hist.tape, g.hist.output, g.hist.size, g.hist.block⟩, g.rooty, g.hdr, g.small, g.pin⟩

theorem item_wpOp {ops : Array Oper} {i : Nat} {o : Oper} {ci : CI} {Kc : St → Prop} {Q : Exit → Act → World → Prop} (ho : ops[i]? = some o) (hc : trI P n ops o = some ci) (hW : opsW P n [ci] Kc S) (g : Good X w0 O0 n S a w hs fp) :
    wpOp P ops Q i (fun a' w' => ∃ S' hs' fp', Good X w0 O0 n S' a' w' hs' fp' ∧ Kc S') a w := by
  unfold wpOp
  simp only [ho]
  simp only [trI] at hc
  split at hc
  · rename_i co hco
    split at hc
    · rename_i hg
      cases hc
      have hw : Region.wanted o (yielded ops a.tmps) = true := by simp [Region.wanted, hg]
      rw [if_pos hw]
      exact .inl (trO_sound hco hW X w0 O0 a w hs fp g Q)
    · rename_i j want hg
      split at hc
      · rename_i oj hoj
        have core : ∀ s d, oj.dst = some s → o.dst = d → (∀ k, d = some k → k < n) → opsW P n [.g s want d co] Kc S →
            if Region.wanted o (yielded ops a.tmps) = true then o.wp P a w (fun a' w' => ∃ S' hs' fp', Good X w0 O0 n S' a' w' hs' fp' ∧ Kc S') Q ∨ (o.asks P a w ∧ LetsOut Q) else ∃ S' hs' fp', Good X w0 O0 n S' (a.put o.dst Go.undef) w hs' fp' ∧ Kc S' := by
          intro s d hs' hdd hdn hW
          simp only [opsW] at hW
          unfold guardC at hW
          split at hW
          · rename_i b hb
            have hval := g.env s
            rw [hb] at hval
            have hval := hval.v_inv
            have ht : a.tmps[s]? = some (.bool b) := by
              rw [Array.getD_eq_getD_getElem?] at hval
              cases hx : a.tmps[s]? with
              | none => rw [hx] at hval; simp [undef] at hval
              | some v => rw [hx] at hval; simpa using hval
            have hy := yielded_eq hoj hs' ht
            by_cases hbw : b = want
            · have hw : Region.wanted o (yielded ops a.tmps) = true := by simp [Region.wanted, hg, hy, hbw]
              rw [if_pos hw]
              have h1 := hW.1 hbw
              rw [env_upd_eq _ _ _ (by rw [hb, hbw])] at h1
              exact .inl (trO_sound hco h1 X w0 O0 a w hs fp g Q)
            · have hw : ¬ Region.wanted o (yielded ops a.tmps) = true := by simp [Region.wanted, hg, hy, hbw]
              rw [if_neg hw]
              have e' : b = !want := by cases b <;> cases want <;> simp_all
              have h1 := hW.2 e'
              rw [env_upd_eq _ _ _ (by rw [hb, e'])] at h1
              exact ⟨_, hs, fp, g.noval o.dst (fun k hk => hdn k (hdd ▸ hk)), hdd ▸ h1⟩
          · exact hW.elim
        split at hc
        · rename_i s d hs' hdd
          split at hc
          · rename_i hdn
            cases hc
            exact core s (some d) hs' hdd (fun k hk => by cases hk; exact hdn) hW
          · cases hc
        · rename_i s hs' hdd
          cases hc
          exact core s none hs' hdd (fun k hk => by cases hk) hW
        · cases hc
      · cases hc
  · cases hc

/-- The edges that bind. -/
def afOf (ops : Array Oper) : List (List Nat) := ops.toList.map fun o => (o.after.toList.filter (Region.binds .any)).map (·.on)

def closed (af : List (List Nat)) (D : Nat → Prop) : Prop := ∀ i, D i → ∀ j ∈ af.getD i [], D j

theorem anc_in {af anc : List (List Nat)} {m : Nat} (h1 : ∀ i, i < m → ∀ j ∈ af.getD i [], j < i) (h2 : ∀ i, i < m → ∀ j ∈ anc.getD i [], j ∈ af.getD i [] ∨ ∃ k, k ∈ af.getD i [] ∧ j ∈ anc.getD k [])
    {D : Nat → Prop} (hD : closed af D) : ∀ i, i < m → (∀ j ∈ af.getD i [], D j) → ∀ j ∈ anc.getD i [], D j := by
  intro i
  induction i using Nat.strongRecOn with
  | _ i ih =>
    intro hi haf j hj
    rcases h2 i hi j hj with h | ⟨k, hk, hjk⟩
    · exact haf j h
    · have hki := h1 i hi k hk
      exact ih k hki (by omega) (hD k (haf k hk)) j hjk

structure DrawFacts (l : List (DK × CI)) (af anc : List (List Nat)) : Prop where
  afl : af.length = l.length
  dst : ∀ i j, i < l.length → j < l.length → i ≠ j → ∀ s, dstAt l i = some s → dstAt l j ≠ some s
  fwd : ∀ i, i < l.length → ∀ j ∈ af.getD i [], j < i
  afwd : ∀ i, i < l.length → ∀ j ∈ anc.getD i [], j < i
  ancs : ∀ i, i < l.length → ∀ j ∈ anc.getD i [], j ∈ af.getD i [] ∨ ∃ k, k ∈ af.getD i [] ∧ j ∈ anc.getD k []
  item : ∀ p ∈ l, itemOK p = true
  self : ∀ i, i < l.length → ∀ s ∈ rdAt l i, dstAt l i ≠ some s
  ind : ∀ i j, i < l.length → j < l.length → j ≠ i → j ∈ anc.getD i [] ∨ i ∈ anc.getD j [] ∨ ((∀ s ∈ rdAt l i, dstAt l j ≠ some s) ∧ ¬ (kAt l i = .h ∧ kAt l j ≠ .e))

def drawOK (l : List (DK × CI)) (af anc : List (List Nat)) : Bool :=
  (af.length == l.length) && l.all itemOK && (List.range l.length).all fun i =>
    (af.getD i []).all (fun j => decide (j < i)) && (anc.getD i []).all (fun j => decide (j < i) && ((af.getD i []).contains j || (af.getD i []).any fun k => (anc.getD k []).contains j)) &&
    (rdAt l i).all (fun s => dstAt l i != some s) &&
    (List.range l.length).all fun j => j == i || ((match dstAt l i with | some s => dstAt l j != some s | none => true) && ((anc.getD i []).contains j || (anc.getD j []).contains i ||
      ((rdAt l i).all fun s => dstAt l j != some s) && !(kAt l i == .h && kAt l j != .e)))

theorem drawOK_spec {l : List (DK × CI)} {af anc : List (List Nat)} (h : drawOK l af anc = true) : DrawFacts l af anc := by
  simp only [drawOK, Bool.and_eq_true, beq_iff_eq, List.all_eq_true, List.mem_range, decide_eq_true_eq, Bool.or_eq_true, List.contains_iff_mem, List.any_eq_true, bne_iff_ne, Bool.not_eq_true', Bool.and_eq_false_iff] at h
  obtain ⟨⟨h1, h2⟩, h3⟩ := h
  refine ⟨h1, fun i j hi hj hij s hs => ?_, fun i hi => (h3 i hi).1.1.1, fun i hi j hj => ((h3 i hi).1.1.2 j hj).1, fun i hi j hj => ((h3 i hi).1.1.2 j hj).2, h2, fun i hi => (h3 i hi).1.2, fun i j hi hj hji => ?_⟩
  · have := ((h3 i hi).2 j hj).resolve_left (Ne.symm hij)
    have := this.1
    rw [hs] at this
    simpa using this
  · have := (((h3 i hi).2 j hj).resolve_left hji).2
    rcases this with (h | h) | ⟨h, h'⟩
    · exact .inl h
    · exact .inr (.inl h)
    · refine .inr (.inr ⟨h, fun ⟨ha, hb⟩ => ?_⟩)
      rcases h' with h' | h'
      · rw [ha] at h'; exact absurd h' (by decide)
      · cases hk : kAt l j <;> rw [hk] at h' hb <;> first | exact hb rfl | exact absurd h' (by decide)

theorem ord_of {l : List (DK × CI)} {af anc : List (List Nat)} (F : DrawFacts l af anc) {D : Nat → Prop} (hD : closed af D) {i : Nat} (hi : i < l.length) (hDi : ¬ D i) (haf : ∀ j ∈ af.getD i [], D j) : Ord l D i := by
  intro j hj hji
  have before : j ∈ anc.getD i [] → j < i ∧ D j := fun h => ⟨F.afwd i hi j h, anc_in F.fwd F.ancs hD i hi haf j h⟩
  have after : i ∈ anc.getD j [] → i < j ∧ ¬ D j := fun h => ⟨F.afwd j hj i h, fun hDj => hDi (anc_in F.fwd F.ancs hD j hj (hD j hDj) i h)⟩
  rcases F.ind i j hi hj hji with h | h | h
  · exact .inl (before h)
  · exact .inr (.inl (after h))
  · rcases F.ind j i hj hi (Ne.symm hji) with h' | h' | h'
    · exact .inr (.inl (after h'))
    · exact .inl (before h')
    · exact .inr (.inr ⟨h.1, h.2, h'.2⟩)

theorem wpAny_draw {ops : Array Oper} {l : List (DK × CI)} {af anc : List (List Nat)} (F : DrawFacts l af anc) (haf : af = afOf ops) (hsz : ops.size = l.length) (htr : ∀ i (h : i < l.length), ∃ o, ops[i]? = some o ∧ trI P n ops o = some l[i].2)
    {v : Nat → A} {rt : Nat → Nat → Root} {e0 : Nat → A} (hloc : ∀ i (h : i < l.length), (l[i].1 ≠ .h → rt (i + 1) = rt i) ∧ LocAt P n l[i].1 l[i].2 ⟨envAt l v e0 i, rt i⟩ (v i) (rt (i + 1)))
    {Q : Exit → Act → World → Prop} (hQ : ∀ S a w hs fp, Good X w0 O0 n S a w hs fp → S = ⟨envAt l v e0 l.length, rt l.length⟩ → Q .normal a w) :
    ∀ (fuel : Nat) (listed : Array Bool) (S : St) (a : Act) (w : World) (hs : Nat → Option Value) (fp : Nat → List Nat), Good X w0 O0 n S a w hs fp → listed.size = l.length → ((List.range l.length).filter fun j => !listed.getD j false).length ≤ fuel →
      closed af (fun j => listed.getD j false = true) → AtD l v rt e0 (fun j => listed.getD j false = true) S → wpAny P .any ops Q fuel listed a w := by
  have hrt : ∀ j, j < l.length → kAt l j ≠ .h → rt (j + 1) = rt j := fun j hj hk => (hloc j hj).1 (by simpa [kAt, List.getElem?_eq_getElem hj] using hk)
  have gt : ∀ {listed : Array Bool} {j : Nat}, listed.size = l.length → j < l.length → (listed.getD j true = false ↔ ¬ listed.getD j false = true) := fun {listed j} h1 h2 => by
    have : j < listed.size := by omega
    simp [this]
  have haff : ∀ i o, ops[i]? = some o → ∀ j, j ∈ af.getD i [] ↔ ∃ e ∈ o.after, Region.binds .any e = true ∧ e.on = j := by
    intro i o ho j
    have : (afOf ops).getD i [] = (o.after.toList.filter (Region.binds .any)).map (·.on) := by
      rw [afOf, List.getD_eq_getElem?_getD, List.getElem?_map]
      have : ops.toList[i]? = some o := by simpa using ho
      rw [this]; rfl
    rw [haf, this, List.mem_map]
    constructor
    · rintro ⟨e, he, rfl⟩
      obtain ⟨h1, h2⟩ := List.mem_filter.1 he
      exact ⟨e, by simpa using h1, h2, rfl⟩
    · rintro ⟨e, he, hb, rfl⟩
      exact ⟨e, List.mem_filter.2 ⟨by simpa using he, hb⟩, rfl⟩
  have fin : ∀ (listed : Array Bool) (S : St) (a : Act) (w : World) (hs : Nat → Option Value) (fp : Nat → List Nat), Good X w0 O0 n S a w hs fp → listed.size = l.length → AtD l v rt e0 (fun j => listed.getD j false = true) S → (∀ j, j < l.length → listed.getD j false = true) → Q .normal a w := by
    intro listed S a w hs fp g hls hAt hall
    refine hQ S a w hs fp g ?_
    obtain ⟨hE, hR⟩ := hAt
    have h1 : S.roots = rt l.length := hR _ (Nat.le_refl _) (fun j hj _ => hall j hj) (fun j h h' => absurd h' (by omega))
    have h2 : S.env = envAt l v e0 l.length := by
      funext s
      obtain ⟨ha, hb⟩ := envAt_spec (v := v) (e0 := e0) F.dst s l.length (Nat.le_refl _)
      by_cases hex : ∃ j, j < l.length ∧ dstAt l j = some s
      · obtain ⟨j, hj, hjs⟩ := hex
        rw [ha j hj hjs, (hE s).1 j hj (hall j hj) hjs]
      · rw [hb fun j hj hjs => hex ⟨j, hj, hjs⟩, (hE s).2 fun j hj _ hjs => hex ⟨j, hj, hjs⟩]
    rw [← h1, ← h2]
  have allof : ∀ (listed : Array Bool), listed.size = l.length → closed af (fun j => listed.getD j false = true) → Region.ready .any ops listed = [] → ∀ j, j < l.length → listed.getD j false = true := by
    intro listed hls hcl hr j
    induction j using Nat.strongRecOn with
    | _ j ih =>
      intro hj
      refine Decidable.byContradiction fun hn => ?_
      obtain ⟨o, ho, _⟩ := htr j hj
      have : j ∈ Region.ready .any ops listed := by
        refine mem_ready.2 ⟨(gt hls hj).2 hn, o, ho, fun e he hb => ?_⟩
        have hmem := (haff j o ho e.on).2 ⟨e, he, hb, rfl⟩
        have hlt := F.fwd j hj _ hmem
        exact ih _ hlt (by omega)
      rw [hr] at this
      cases this
  intro fuel
  induction fuel with
  | zero =>
    intro listed S a w hs fp g hls hcnt hcl hAt
    have hall : ∀ j, j < l.length → listed.getD j false = true := fun j hj => by
      have h0 := List.eq_nil_of_length_eq_zero (Nat.le_zero.1 hcnt)
      have := List.filter_eq_nil_iff.1 h0 j (List.mem_range.2 hj)
      simpa using this
    refine ⟨?_, fin listed S a w hs fp g hls hAt hall⟩
    refine List.eq_nil_iff_forall_not_mem.2 fun j hj => ?_
    obtain ⟨h1, o, ho, _⟩ := mem_ready.1 hj
    have hjl : j < l.length := by rw [← hsz]; exact (Array.getElem?_eq_some_iff.1 ho).1
    exact (gt hls hjl).1 h1 (hall j hjl)
  | succ fuel ih =>
    intro listed S a w hs fp g hls hcnt hcl hAt
    refine ⟨fun hr => fin listed S a w hs fp g hls hAt (allof listed hls hcl hr), fun i hi => ?_⟩
    obtain ⟨hun, o, ho, hall⟩ := mem_ready.1 hi
    have hil : i < l.length := by rw [← hsz]; exact (Array.getElem?_eq_some_iff.1 ho).1
    have hDi := (gt hls hil).1 hun
    have hafi : ∀ j ∈ af.getD i [], listed.getD j false = true := fun j hj => by
      obtain ⟨e, he, hb, rfl⟩ := (haff i o ho j).1 hj
      exact hall e he hb
    have hord := ord_of F hcl hil hDi hafi
    obtain ⟨h1, h2, h3⟩ := hAt.step F.dst hrt hil (F.self i hil) hDi hord
    obtain ⟨o', ho', htri⟩ := htr i hil
    rw [ho] at ho'; cases ho'
    have hgi : l[i]? = some l[i] := List.getElem?_eq_getElem hil
    have hrd : rdAt l i = l[i].2.reads := by simp [rdAt, hgi]
    have hka : kAt l i = l[i].1 := by simp [kAt, hgi]
    have hda : dstAt l i = l[i].2.dst := by simp [dstAt, hgi]
    rw [hrd] at h1; rw [hka] at h2 h3; rw [hda] at h3
    have hW := (hloc i hil).2 S.env S.roots (fun S' => S' = ⟨putE S.env l[i].2.dst (v i), if l[i].1 = .h then rt (i + 1) else S.roots⟩) h1 h2 rfl
    have := item_wpOp (Q := Q) ho htri (show opsW P n [l[i].2] _ S from hW) g
    refine wpOp_mono (fun a' w' ⟨S', hs', fp', g', hS'⟩ => ?_) this
    subst hS'
    have hset : ∀ j, (listed.setIfInBounds i true).getD j false = true ↔ (listed.getD j false = true ∨ j = i) := fun j => by
      by_cases hji : j = i
      · subst hji; simp [show j < listed.size by omega]
      · rw [getD_set_ne false (Ne.symm hji)]; simp [hji]
    refine ih _ _ a' w' hs' fp' g' (by simp [hls]) ?_ ?_ ?_
    · have e : ((List.range l.length).filter fun j => !(listed.setIfInBounds i true).getD j false) = ((List.range l.length).filter fun j => !listed.getD j false).filter fun j => j != i := by
        rw [List.filter_filter]
        refine List.filter_congr fun j _ => ?_
        by_cases hji : j = i
        · subst hji; have := (hset j).2 (.inr rfl); rw [this]; simp
        · rw [getD_set_ne false (Ne.symm hji)]; simp [hji]
      rw [e]
      have : (((List.range l.length).filter fun j => !listed.getD j false).filter fun j => j != i).length < ((List.range l.length).filter fun j => !listed.getD j false).length := by
        rw [List.length_filter_lt_length_iff_exists]
        exact ⟨i, List.mem_filter.2 ⟨List.mem_range.2 hil, by simpa using hDi⟩, by simp⟩
      omega
    · intro j hj k hk
      refine (hset k).2 (.inl ?_)
      rcases (hset j).1 hj with h | rfl
      · exact hcl j h k hk
      · exact hafi k hk
    · have e : (fun j => (listed.setIfInBounds i true).getD j false = true) = fun j => listed.getD j false = true ∨ j = i := by
        funext j; exact propext (hset j)
      rw [e]; exact h3

theorem Sem.draw {id : Nat} {ops : Array Oper} {l : List (DK × CI)} {anc : List (List Nat)} (hm : P.follows .mixedOrders = true) (hok : drawOK l (afOf ops) anc = true) (hsz : ops.size = l.length) (htr : ∀ i (h : i < l.length), ∃ o, ops[i]? = some o ∧ trI P n ops o = some l[i].2)
    {Q : Exit → St → Prop} (h : drawW P n l (Q .normal) S) : Sem P n (.region id ops true) Q S := by
  intro X w0 O0 a w hs fp g
  have F := drawOK_spec hok
  obtain ⟨v, rt, h1, h2, h3⟩ := draw_chain l S F.item h
  refine wp_region_any hm ?_
  have hfalse : ∀ j, (Array.replicate ops.size false).getD j false = false := fun j => by
    by_cases hj : j < ops.size <;> simp [hj]
  have hno : ∀ j, ¬ (Array.replicate ops.size false).getD j false = true := fun j h => by rw [hfalse] at h; cases h
  refine wpAny_draw F rfl hsz htr h2 (fun S' a' w' hs' fp' g' hS' => ⟨S', hs', fp', g', by rw [hS']; exact h3⟩) _ _ S a _ hs fp (g.drawn _) (by simp [hsz]) ?_ (fun i hi => (hno i hi).elim) ⟨fun s => ⟨fun j _ hj _ => (hno j hj).elim, fun _ => rfl⟩, fun k hk ha hb => ?_⟩
  · rw [hsz]
    exact Nat.le_trans (List.length_filter_le _ _) (by simp)
  rw [← h1]
  have : rt (0 + k) = rt 0 := rt_const (H := fun j => kAt l j = .h) k (fun j _ hj hjh => (hno j (ha j (by omega) hjh)).elim) (fun j _ hj hjh => (h2 j (by omega)).1 (by simpa [kAt, List.getElem?_eq_getElem (show j < l.length by omega)] using hjh))
  rw [Nat.zero_add] at this
  exact this.symm
end
end Go.Ab

/- The abstract layer, part 25: compact code as a whole. -/
set_option linter.unusedSimpArgs false
set_option linter.unusedVariables false
namespace Go.Ab

inductive CC where
  | skip
  | reg (l : List CI)
  | draw (l : List (DK × CI))
  | seq (a b : CC)
  | cond (x : Operand) (a b : CC)
  | block (id : Nat) (c : CC)
  | loop (c : CC)
  | exit (id : Nat)
  | ret

def CI.co : CI → CO
  | .o c => c
  | .g _ _ _ c => c
/-- Does the item change roots? -/
def heavyAt (P : Program) (o : Oper) (c : CI) : Bool :=
  match c.co with
  | .store .. | .alloc .. | .box .. | .bslice .. | .make .. | .app .. => true
  | .call d _ _ => d.isNone || !((tyInt P o.type).isSome || tyBool P o.type || tyAgg P o.type == some true)
  | _ => false
def ancGo (acc : List (List Nat)) : List (List Nat) → List (List Nat)
  | [] => acc
  | a :: rest => ancGo (acc ++ [a ++ (a.map fun j => acc.getD j []).flatten]) rest
def kindsOf (m : Nat) (hv : List Bool) (anc : List (List Nat)) : List DK :=
  (List.range m).map fun i => if hv.getD i false then .h else if (List.range m).any (fun j => hv.getD j false && !((anc.getD i []).contains j || (anc.getD j []).contains i)) then .e else .r
def drawOf (P : Program) (ops : Array Oper) (l : List CI) : List (DK × CI) :=
  (kindsOf l.length ((ops.toList.zip l).map fun p => heavyAt P p.1 p.2) (ancGo [] (afOf ops))).zip l

def trDraw (P : Program) (n : Nat) (ops : Array Oper) : Option (List (DK × CI)) :=
  match trR P n ops ops.toList with
  | some l => if P.follows .mixedOrders = true ∧ drawOK (drawOf P ops l) (afOf ops) (ancGo [] (afOf ops)) = true then some (drawOf P ops l) else none
  | none => none

def trC (P : Program) (n : Nat) : Code → Option CC
  | .skip => some .skip
  | .region _ ops false => (match trR P n ops ops.toList with | some l => some (.reg l) | none => none)
  | .region _ ops true => (match trDraw P n ops with | some l => some (.draw l) | none => none)
  | .seq a b => (match trC P n a, trC P n b with | some a, some b => some (.seq a b) | _, _ => none)
  | .cond x a b => (match trC P n a, trC P n b with | some a, some b => some (.cond x a b) | _, _ => none)
  | .block id c => (match trC P n c with | some c => some (.block id c) | none => none)
  | .loop c => (match trC P n c with | some c => some (.loop c) | none => none)
  | .exit id => some (.exit id)
  | .ret => some .ret
  | _ => none

def thenC (K : St → Prop) (Q : Exit → St → Prop) : Exit → St → Prop
  | .normal, S => K S
  | e, S => Q e S

/-- All that is to be shown of code that reads as c. -/
def SemC (P : Program) (n : Nat) (c : CC) (Q : Exit → St → Prop) (S : St) : Prop := ∀ code, trC P n code = some c → Sem P n code Q S

def cW (P : Program) (n : Nat) : CC → (Exit → St → Prop) → St → Prop
  | .skip, Q, S => Q .normal S
  | .reg l, Q, S => opsW P n l (Q .normal) S
  | .draw l, Q, S => drawW P n l (Q .normal) S
  | .seq a b, Q, S => cW P n a (thenC (cW P n b Q) Q) S
  | .cond x a b, Q, S => condC (S.ev x) (cW P n a Q) (cW P n b Q) S
  | .block id c, Q, S => cW P n c (blockQ id Q) S
  | .loop c, Q, S => SemC P n (.loop c) Q S
  | .exit id, Q, S => Q (.exit id) S
  | .ret, Q, S => Q .ret S

section
variable {P : Program} {n : Nat} {S : St}

theorem trR_spec {ops : Array Oper} : ∀ {os : List Oper} {l : List CI}, trR P n ops os = some l → l.length = os.length ∧ ∀ i (h : i < os.length) (h' : i < l.length), trI P n ops os[i] = some l[i]
  | [], l, h => by simp only [trR, Option.some.injEq] at h; subst h; exact ⟨rfl, fun i h => absurd h (by simp)⟩
  | o :: os, l, h => by
    simp only [trR] at h
    split at h
    · rename_i c cl hc hcl
      cases h
      obtain ⟨h1, h2⟩ := trR_spec hcl
      refine ⟨by simp [h1], fun i h h' => ?_⟩
      cases i with
      | zero => exact hc
      | succ i => exact h2 i (by simpa using h) (by simpa using h')
    · cases h

theorem cW_sound : ∀ (c : CC) (Q : Exit → St → Prop) (S : St), cW P n c Q S → SemC P n c Q S := by
  intro c
  induction c with
  | skip =>
    intro Q S h code hc
    unfold trC at hc
    split at hc <;> (try split at hc) <;> (try cases hc)
    exact Sem.skip h
  | reg l =>
    intro Q S h code hc
    unfold trC at hc
    split at hc <;> (try split at hc) <;> (try cases hc)
    rename_i ops l' hl
    refine Sem.region ?_
    have := ops_sound (K := Q .normal) ops.toList 0 _ S rfl hl h
    rw [show List.range ops.size = List.range' 0 ops.toList.length by rw [List.range_eq_range']; simp]
    exact this
  | draw l =>
    intro Q S h code hc
    unfold trC at hc
    split at hc <;> (try split at hc) <;> (try cases hc)
    rename_i ops l0 hdr
    unfold trDraw at hdr
    split at hdr <;> (try split at hdr) <;> (try cases hdr)
    · rename_i l' hl hcond
      obtain ⟨h1, h2⟩ := trR_spec hl
      have hlen : (drawOf P ops l').length = l'.length := by simp [drawOf, kindsOf]
      refine Sem.draw hcond.1 hcond.2 (by rw [hlen, h1]; simp) (fun i hi => ?_) h
      have hi' : i < ops.toList.length := by rw [← h1, ← hlen]; exact hi
      refine ⟨ops.toList[i], by rw [← Array.getElem?_toList]; exact List.getElem?_eq_getElem hi', ?_⟩
      rw [h2 i hi' (by omega)]
      simp [drawOf]
  | seq a b iha ihb =>
    intro Q S h code hc
    unfold trC at hc
    split at hc <;> (try split at hc) <;> (try cases hc)
    rename_i x y hx hy
    refine Sem.seq ((iha _ S h _ hx).mono fun e S' q => ?_)
    cases e with
    | normal => exact ihb Q S' q _ hy
    | _ => exact q
  | cond x a b iha ihb =>
    intro Q S h code hc
    unfold trC at hc
    split at hc <;> (try split at hc) <;> (try cases hc)
    rename_i hx hy
    simp only [cW] at h
    unfold condC at h
    split at h
    · rename_i b' hb
      exact Sem.cond hb (fun e => iha Q S (h.1 e) _ hx) (fun e => ihb Q S (h.2 e) _ hy)
    · exact h.elim
  | block id c ih =>
    intro Q S h code hc
    unfold trC at hc
    split at hc <;> (try split at hc) <;> (try cases hc)
    rename_i x hx
    exact Sem.block (ih _ S h _ hx)
  | loop c ih => intro Q S h; exact h
  | exit id =>
    intro Q S h code hc
    unfold trC at hc
    split at hc <;> (try split at hc) <;> (try cases hc)
    exact Sem.exit h
  | ret =>
    intro Q S h code hc
    unfold trC at hc
    split at hc <;> (try split at hc) <;> (try cases hc)
    exact Sem.ret h

/-- A loop of compact code. -/
theorem SemC.loop {σ : Type} {c : CC} {Q : Exit → St → Prop} (mk : σ → St) (Inv : σ → Prop) (μ : σ → Nat) (s0 : σ) (h0 : Weak n S (mk s0)) (hi : Inv s0)
    (round : ∀ s, Inv s → cW P n c (loopQ n mk Inv μ (μ s) Q) (mk s)) : SemC P n (.loop c) Q S := by
  intro code hc
  unfold trC at hc
  split at hc <;> (try split at hc) <;> (try cases hc)
  rename_i x hx
  exact Sem.loop mk Inv μ s0 h0 hi fun s hs => cW_sound _ _ _ (round s hs) _ hx

/-- At the end: the results, as they are. -/
def retP (P : Program) (rvs : List ResultVar) (k : Nat) (Q : List T → T → Prop) : Exit → St → Prop
  | .normal, S => retL P S rvs fun ts S' => routW S' k 1000000000 fun rout => Q rout (packT ts)
  | .ret, S => retL P S rvs fun ts S' => routW S' k 1000000000 fun rout => Q rout (packT ts)
  | _, _ => False
theorem routW_mono : ∀ (k i : Nat) {S : St} {K K' : List T → Prop}, (∀ l, K l → K' l) → routW S k i K → routW S k i K'
  | 0, i, S, K, K', h, hh => h _ hh
  | k + 1, i, S, K, K', h, hh => by
    simp only [routW] at hh ⊢
    split at hh
    · exact routW_mono k (i + 1) (fun l hl => h _ hl) hh
    · exact hh.elim
mutual
theorem giveT_mono : ∀ (a : A) {S : St} {K K' : T → St → Prop}, (∀ t S', K t S' → K' t S') → giveT S a K → giveT S a K'
  | .t c, S, K, K', h, hh => by unfold giveT at hh ⊢; exact h _ _ hh
  | .own q, S, K, K', h, hh => by
    unfold giveT at hh ⊢
    split at hh
    · exact h _ _ hh
    · exact hh.elim
  | .agg l, S, K, K', h, hh => by unfold giveT at hh ⊢; exact giveTL_mono l (fun t S' => h _ S') hh
  | .tup l, S, K, K', h, hh => by unfold giveT at hh ⊢; exact giveTL_mono l (fun t S' => h _ S') hh
  | .sub _ _ _, S, K, K', h, hh => by unfold giveT at hh; exact hh.elim
  | .ptr _ _, S, K, K', h, hh => by unfold giveT at hh; exact hh.elim
  | .fn _ _, S, K, K', h, hh => by unfold giveT at hh; exact hh.elim
theorem giveTL_mono : ∀ (l : List A) {S : St} {K K' : List T → St → Prop}, (∀ t S', K t S' → K' t S') → giveTL S l K → giveTL S l K'
  | [], S, K, K', h, hh => by unfold giveTL at hh ⊢; exact h _ _ hh
  | a :: l, S, K, K', h, hh => by
    unfold giveTL at hh ⊢
    exact giveT_mono a (fun t S' h1 => giveTL_mono l (fun ts S'' h2 => h _ _ h2) h1) hh
end
theorem retOne_mono {rv : ResultVar} {K K' : T → St → Prop} (h : ∀ t S', K t S' → K' t S') (hh : retOne P S rv K) : retOne P S rv K' := by
  unfold retOne at hh ⊢
  cases rv with
  | tmp t => exact giveT_mono _ h hh
  | cell t ty =>
    simp only at hh ⊢
    cases he : S.env t <;> simp only [he] at hh ⊢
    rename_i q
    generalize S.roots q = r at hh ⊢
    split at hh
    · split at hh
      · exact ⟨hh.1, h _ _ hh.2⟩
      · split at hh
        · exact h _ _ hh
        · exact hh.elim
      · exact hh.elim
    · exact hh.elim
theorem retL_mono : ∀ (l : List ResultVar) {S : St} {K K' : List T → St → Prop}, (∀ t S', K t S' → K' t S') → retL P S l K → retL P S l K'
  | [], S, K, K', h, hh => by unfold retL at hh ⊢; exact h _ _ hh
  | a :: l, S, K, K', h, hh => by
    unfold retL at hh ⊢
    exact retOne_mono (fun t S' h1 => retL_mono l (fun ts S'' h2 => h _ _ h2) h1) hh

def sl (n : Nat) : Operand := .tmp n
def ci (n : Int) : Operand := .const (.int .i64 n)
def cb (b : Bool) : Operand := .const (.bool b)
def cv (v : Value) : Operand := .const v
def cf (f : Nat) : Operand := .func f
theorem ev_sl (S : St) (n : Nat) : S.ev (sl n) = S.env n := rfl
theorem ev_ci (S : St) (n : Int) : S.ev (ci n) = .t (.v (.int .i64 n)) := rfl
theorem ev_cb (S : St) (b : Bool) : S.ev (cb b) = .t (.v (.bool b)) := rfl
theorem ev_cv (S : St) (v : Value) : S.ev (cv v) = .t (.v v) := rfl
theorem ev_cf (S : St) (f : Nat) : S.ev (cf f) = .fn f [] := rfl

theorem Fun.of {f : FuncId} {fn : Func} {code : Code} {c : CC} {rin : List T} {args : List A} {Q : List T → T → Prop} (hf : P.funcs[f]? = some fn) (hb : fn.body = some code) (hn : fn.ntmps = n) {rv : List ResultVar} (hrv : fn.results.toList = rv) (hc : trC P n code = some c) (ha : args.length ≤ n) (hsm : n ≤ 100000)
    (h : cW P n c (retP P rv rin.length Q) (St.of (enum 0 args) (enum 1000000000 rin))) : Fun P f rin args Q :=
  Fun.intro hf hb hn ha hsm ((cW_sound _ _ _ h _ hc).mono fun e S' q => by
    subst hrv
    have key : retP P fn.results.toList rin.length Q .ret S' → retQ P fn.results.toList rin.length Q .ret S' := fun q => by
      simp only [retP, retQ] at q ⊢
      exact retL_mono _ (fun ts S'' h1 => routW_mono _ _ (fun rout h2 => ⟨_, .refl _, h2⟩) h1) q
    cases e with
    | normal => exact key q
    | ret => exact key q
    | _ => exact q.elim)

/-- A call of a function with a contract. -/
theorem CallW.use {d : Option Nat} {fo : Operand} {as : List Operand} {K : St → Prop} {f : FuncId} {cap : List A} (hfo : fnA (S.ev fo) = some (f, cap)) (hcall : ∀ args w, (callFunc f args).run P w = .ok (.enter f args) w) {rin : List T} {args : List A} {Q : List T → T → Prop} (hF : Fun P f rin args Q)
    (srcs bor : List Nat) (hsn : srcs.Nodup) (hsrc : srcsOK S srcs rin) (hsb : ∀ q ∈ bor, q ∉ srcs) (hargs : vaL S srcs bor args (as.map S.ev ++ cap))
    (hk : ∀ rout res, Q rout res → (bor = [] ∨ (res.noSh ∧ T.noShL rout)) ∧ afterCall S d srcs rout res K) : CallW P n d fo as K S := by
  intro o ts ho hd hdn
  subst hd
  exact OpW.call ho hdn hfo hcall hF srcs bor hsn hsrc hsb (by simpa using hargs) hk

/-- A call that only computes a plain value. -/
theorem CallW.pure {d : Nat} {fo : Operand} {as : List Operand} {K : St → Prop} {f : FuncId} {cap : List A} {args : List T} {res : T} {x : A} (hF : Pure P f args res) (bor : List Nat) (hfo : fnA (S.ev fo) = some (f, cap)) (hcall : ∀ args w, (callFunc f args).run P w = .ok (.enter f args) w)
    (hargs : vaL S [] bor (args.map A.t) (as.map S.ev ++ cap)) (hns : res.noSh) (hx : absT d 0 res = (x, [], 0)) (hk : K { S with env := upd S.env d x }) : CallW P n (some d) fo as K S := by
  refine CallW.use hfo hcall hF [] bor (by simp) trivial (fun q _ => by simp) hargs fun rout res' h => ?_
  obtain ⟨rfl, rfl⟩ := h
  refine ⟨.inr ⟨hns, trivial⟩, ?_⟩
  simp only [afterCall, hx]
  exact ⟨trivial, by simp, hk⟩
/-- The same, with the continuation hidden. -/
theorem SemC.loopR {σ : Type} {c : CC} {Q : Exit → St → Prop} (mk : σ → St) (Inv : σ → Prop) (μ : σ → Nat) (s0 : σ) (h0 : Weak n S (mk s0)) (hi : Inv s0)
    (round : ∀ s, Inv s → ∀ R : Exit → St → Prop, (∀ S' s', Weak n S' (mk s') → Inv s' → μ s' < μ s → R .normal S') → (∀ S', Q .ret S' → R .ret S') → (∀ i S', Q (.exit i) S' → R (.exit i) S') → cW P n c R (mk s)) : SemC P n (.loop c) Q S :=
  SemC.loop mk Inv μ s0 h0 hi fun s hs => round s hs _ (fun S' s' h1 h2 h3 => ⟨s', h1, h2, h3⟩) (fun _ h => h) (fun _ _ h => h)

/-- A call in a draw, that only computes a plain value. -/
theorem CallV.pure {fo : Operand} {as : List Operand} {ρ : Operand → A} {R : Nat → Root} {K : A → Prop} {f : FuncId} {cap : List A} {args : List T} {res : T} {x : A} (hF : Pure P f args res) (bor : List Nat) (hfo : fnA (ρ fo) = some (f, cap)) (hcall : ∀ args w, (callFunc f args).run P w = .ok (.enter f args) w)
    (hargs : ∀ e R', (∀ r, R r = .dead ∨ R' r = R r) → vaL ⟨e, R'⟩ [] bor (args.map A.t) (as.map ρ ++ cap)) (hns : res.noSh) (hx : ∀ d, absT d 0 res = (x, [], 0)) (hk : K x) : CallV P n fo as ρ R K := by
  refine ⟨x, hk, fun d e R' Kc h1 h2 h3 => ?_⟩
  refine CallW.pure hF bor (by rw [h2 fo (by simp)]; exact hfo) hcall ?_ hns (hx d) h3
  have : as.map (St.ev ⟨e, R'⟩) = as.map ρ := List.map_congr_left fun y hy => h2 y (by simp [hy])
  rw [this]
  exact hargs e R' h1

theorem coH_store (P : Program) (n z : Nat) (x v : Operand) (K : St → Prop) (S : St) : coH P n (.store z x v) K S = coW P n (.store z x v) K S := rfl
theorem coH_alloc (P : Program) (n d : Nat) (zs : List T) (K : St → Prop) (S : St) : coH P n (.alloc d zs) K S = coW P n (.alloc d zs) K S := rfl
theorem coH_box (P : Program) (n d : Nat) (x : Operand) (K : St → Prop) (S : St) : coH P n (.box d x) K S = coW P n (.box d x) K S := rfl
theorem coH_bslice (P : Program) (n d z len : Nat) (ps : List (Nat × Operand)) (K : St → Prop) (S : St) : coH P n (.bslice d z len ps) K S = coW P n (.bslice d z len ps) K S := rfl
theorem coH_make (P : Program) (n d : Nat) (zs : List T) (eb : Nat) (l c : Operand) (K : St → Prop) (S : St) : coH P n (.make d zs eb l c) K S = coW P n (.make d zs eb l c) K S := rfl
theorem coH_app (P : Program) (n d z eb : Nat) (b x : Operand) (K : St → Prop) (S : St) : coH P n (.app d z eb b x) K S = coW P n (.app d z eb b x) K S := rfl
theorem coH_load1 (P : Program) (n d : Nat) (x : Operand) (K : St → Prop) (S : St) : coH P n (.load1 d x) K S = coW P n (.load1 d x) K S := rfl
theorem coH_call (P : Program) (n : Nat) (d : Option Nat) (f : Operand) (as : List Operand) (K : St → Prop) (S : St) : coH P n (.call d f as) K S = CallH P n d f as K S := rfl

theorem thenC_n (K : St → Prop) (Q : Exit → St → Prop) (S : St) : thenC K Q .normal S = K S := rfl
theorem thenC_r (K : St → Prop) (Q : Exit → St → Prop) (S : St) : thenC K Q .ret S = Q .ret S := rfl
theorem thenC_e (K : St → Prop) (Q : Exit → St → Prop) (S : St) (i : Nat) : thenC K Q (.exit i) S = Q (.exit i) S := rfl
theorem blockQ_n (i : Nat) (Q : Exit → St → Prop) (S : St) : blockQ i Q .normal S = Q .normal S := rfl
theorem blockQ_r (i : Nat) (Q : Exit → St → Prop) (S : St) : blockQ i Q .ret S = Q .ret S := rfl
theorem blockQ_e (i j : Nat) (Q : Exit → St → Prop) (S : St) : blockQ i Q (.exit j) S = if j = i then Q .normal S else Q (.exit j) S := rfl
theorem loopQ_n {σ : Type} (n : Nat) (mk : σ → St) (Inv : σ → Prop) (μ : σ → Nat) (m : Nat) (Q : Exit → St → Prop) (S : St) : loopQ n mk Inv μ m Q .normal S = ∃ s', Weak n S (mk s') ∧ Inv s' ∧ μ s' < m := rfl
theorem loopQ_r {σ : Type} (n : Nat) (mk : σ → St) (Inv : σ → Prop) (μ : σ → Nat) (m : Nat) (Q : Exit → St → Prop) (S : St) : loopQ n mk Inv μ m Q .ret S = Q .ret S := rfl
theorem loopQ_e {σ : Type} (n : Nat) (mk : σ → St) (Inv : σ → Prop) (μ : σ → Nat) (m : Nat) (Q : Exit → St → Prop) (S : St) (i : Nat) : loopQ n mk Inv μ m Q (.exit i) S = Q (.exit i) S := rfl
theorem storeK_apply (r off z : Nat) (K : St → Prop) (ts : List T) (S : St) : storeK r off z K ts S = match (S.roots r).cells with
  | some (l, lk) => 0 < z ∧ off + z ≤ l.length ∧ K { S with roots := upd S.roots r ((S.roots r).with (spl l off ts) (lk.filter fun p => p.1 < off || off + z ≤ p.1)) }
  | none => False := rfl
theorem appendK1_apply (x : A) (d z eb : Nat) (K : St → Prop) (olds : List T) (S : St) : appendK1 x d z eb K olds S = srcW S x z (appendK2 d z eb K olds) := rfl
theorem appendK2_apply (d z eb : Nat) (K : St → Prop) (olds news : List T) (S : St) : appendK2 d z eb K olds news S = ((olds.length + news.length) * eb ≤ z * 140737488355328 ∧ newK d (.arr z) K (olds ++ news) S) := rfl
end
end Go.Ab
