/- The abstract layer, part 22: operations that only give a value: which slots they look at, and that their value is determined. -/
import Derived.Test.YtbilpaghpgomeaaAb20
set_option linter.unusedSimpArgs false
set_option linter.unusedVariables false
namespace Go.Ab

def CO.reads : CO → List Operand
  | .move _ x | .un _ _ x | .extract _ x _ | .lenS _ x | .lenT _ x | .fld _ _ x | .load1 _ x | .loadN _ _ x | .box _ x | .conv _ _ x | .nilc _ x => [x]
  | .pick _ c x y => [c, x, y]
  | .bin _ _ x y | .beq _ _ x y | .idx _ _ x y | .store _ x y | .make _ _ _ x y | .app _ _ _ x y | .mm _ _ x y => [x, y]
  | .alloc _ _ => []
  | .build _ _ _ ps | .bslice _ _ _ ps => ps.map (·.2)
  | .mkf _ _ caps => caps
  | .call _ f as => f :: as

/-- What a slot's load gives if no root changes by it. -/
def load1V (x : A) (S : St) (K : A → Prop) : Prop :=
  match x with
  | .t (.pin l off) => off < l.length ∧ ∀ c, l[off]? = some c → K (.t c)
  | .ptr r off => (match (S.roots r).cells with
    | some (l, lk) => off < l.length ∧ (match lk.lookup off with
      | some q => K (.own q)
      | none => ∀ c, l[off]? = some c → c.flat = true ∧ K (.t c))
    | none => False)
  | .own r => (match S.roots r with
    | .live (.box l) lk => 0 < l.length ∧ (match lk.lookup 0 with
      | some q => K (.own q)
      | none => ∀ c, l[0]? = some c → c.flat = true ∧ K (.t c))
    | _ => False)
  | _ => False
def loadNV (z : Nat) (x : A) (S : St) (K : A → Prop) : Prop :=
  match x with
  | .t (.pin l off) => off + z ≤ l.length ∧ K (.t (.agg ((l.drop off).take z)))
  | .ptr r off => (match (S.roots r).cells with
    | some (l, lk) => off + z ≤ l.length ∧ ((l.drop off).take z).all T.flat = true ∧ K (.t (.agg ((l.drop off).take z)))
    | none => False)
  | .own r => (match S.roots r with
    | .live (.box l) lk => z ≤ l.length ∧ (l.take z).all T.flat = true ∧ K (.t (.agg (l.take z)))
    | _ => False)
  | _ => False

/-- A call whose result is determined and that leaves the roots alone. -/
def CallV (P : Program) (n : Nat) (f : Operand) (as : List Operand) (ρ : Operand → A) (R : Nat → Root) (K : A → Prop) : Prop :=
  ∃ x, K x ∧ ∀ (d : Nat) (e : Nat → A) (R' : Nat → Root) (Kc : St → Prop), (∀ r, R r = .dead ∨ R' r = R r) → (∀ y, y ∈ f :: as → St.ev ⟨e, R'⟩ y = ρ y) → Kc ⟨upd e d x, R'⟩ → CallW P n (some d) f as Kc ⟨e, R'⟩

def coV (P : Program) (n : Nat) : CO → (Operand → A) → St → (A → Prop) → Prop
  | .move _ x, ρ, S, K => K (ρ x)
  | .pick _ c x y, ρ, S, K => pickC (ρ c) (ρ x) (ρ y) K
  | .bin _ op x y, ρ, S, K => binW op (ρ x) (ρ y) K
  | .beq _ ne x y, ρ, S, K => beqC ne (ρ x) (ρ y) K
  | .un _ op x, ρ, S, K => unW op (ρ x) K
  | .extract _ x i, ρ, S, K => extractW (ρ x) i K
  | .lenS _ x, ρ, S, K => lenC (ρ x) S K
  | .lenT _ x, ρ, S, K => lenTC (ρ x) K
  | .idx _ z x y, ρ, S, K => idxC z (ρ x) (ρ y) S K
  | .fld _ off x, ρ, S, K => fldC off (ρ x) S K
  | .load1 _ x, ρ, S, K => load1V (ρ x) S K
  | .loadN _ z x, ρ, S, K => loadNV z (ρ x) S K
  | .build _ zs pl parts, ρ, S, K => buildC zs pl (parts.map fun p => (p.1, ρ p.2)) K
  | .conv _ k x, ρ, S, K => convC k (ρ x) K
  | .nilc _ x, ρ, S, K => nilCheckW (ρ x) S K
  | .mkf _ f caps, ρ, S, K => K (.fn f (caps.map ρ))
  | .mm _ mx x y, ρ, S, K => mmW mx (ρ x) (ρ y) K
  | .call (some _) f as, ρ, S, K => CallV P n f as ρ S.roots K
  | _, _, _, _ => False

section
variable {P : Program} {n : Nat} {S : St}

theorem exists_of_lt {α : Type} {l : List α} {i : Nat} (h : i < l.length) : ∃ c, l[i]? = some c := ⟨_, List.getElem?_eq_getElem h⟩

theorem load1V_det {x : A} {K : A → Prop} (h : load1V x S K) : ∃ v, K v ∧ ∀ K' : A → Prop, K' v → load1V x S K' := by
  unfold load1V at h ⊢
  split at h
  · obtain ⟨c, hc⟩ := exists_of_lt h.1
    exact ⟨_, h.2 c hc, fun K' hK => ⟨h.1, fun c' hc' => by rw [hc] at hc'; cases hc'; exact hK⟩⟩
  · split at h
    · split at h
      · exact ⟨_, h.2, fun K' hK => ⟨h.1, hK⟩⟩
      · obtain ⟨c, hc⟩ := exists_of_lt h.1
        exact ⟨_, (h.2 c hc).2, fun K' hK => ⟨h.1, fun c' hc' => by rw [hc] at hc'; cases hc'; exact ⟨(h.2 c hc).1, hK⟩⟩⟩
    · exact h.elim
  · split at h
    · split at h
      · exact ⟨_, h.2, fun K' hK => ⟨h.1, hK⟩⟩
      · obtain ⟨c, hc⟩ := exists_of_lt h.1
        exact ⟨_, (h.2 c hc).2, fun K' hK => ⟨h.1, fun c' hc' => by rw [hc] at hc'; cases hc'; exact ⟨(h.2 c hc).1, hK⟩⟩⟩
    · exact h.elim
  · exact h.elim

theorem binI_det {op : BinOp} {k : IntKind} {a b : Int} {K : A → Prop} (h : binI op k a b K) : ∃ v, K v ∧ ∀ K' : A → Prop, K' v → binI op k a b K' := by
  cases op <;> simp only [binI] at h ⊢ <;> first
    | exact h.elim
    | exact ⟨_, h, fun _ h => h⟩
    | exact ⟨_, h.2, fun _ h' => ⟨h.1, h'⟩⟩

theorem coV_det {c : CO} {ρ : Operand → A} {K : A → Prop} (h : coV P n c ρ S K) : ∃ v, K v ∧ ∀ K' : A → Prop, K' v → coV P n c ρ S K' := by
  unfold coV at h
  split at h
  · exact ⟨_, h, fun _ h => h⟩
  · unfold pickC at h
    unfold coV pickC
    split at h
    · rename_i b hb
      cases b
      · exact ⟨_, h.2 rfl, fun K' hK => by simp only [hb]; exact ⟨fun e => (by cases e), fun _ => hK⟩⟩
      · exact ⟨_, h.1 rfl, fun K' hK => by simp only [hb]; exact ⟨fun _ => hK, fun e => (by cases e)⟩⟩
    · exact h.elim
  · unfold binW at h
    unfold coV binW
    split at h
    · rename_i hx hy
      obtain ⟨v, h1, h2⟩ := binI_det h.2
      exact ⟨v, h1, fun K' hK => by simp only [hx, hy]; exact ⟨h.1, h2 K' hK⟩⟩
    · exact h.elim
  · unfold beqC at h
    unfold coV beqC
    split at h
    · rename_i hx hy; exact ⟨_, h, fun K' hK => by simp only [hx, hy]; exact hK⟩
    · exact h.elim
  · unfold unW at h
    unfold coV unW
    split at h
    · rename_i hx; exact ⟨_, h, fun K' hK => by simp only [hx]; exact hK⟩
    · rename_i hx; exact ⟨_, h, fun K' hK => by simp only [hx]; exact hK⟩
    · exact h.elim
  · unfold extractW at h
    unfold coV extractW
    split at h
    · rename_i hx; obtain ⟨a, ha, hK⟩ := h; exact ⟨_, hK, fun K' hK => by simp only [hx]; exact ⟨a, ha, hK⟩⟩
    · rename_i hx; obtain ⟨a, ha, hK⟩ := h; exact ⟨_, hK, fun K' hK => by simp only [hx]; exact ⟨a, ha, hK⟩⟩
    · exact h.elim
  · unfold lenC at h
    unfold coV lenC
    split at h
    · rename_i hx; exact ⟨_, h, fun K' hK => by simp only [hx]; exact hK⟩
    · rename_i hx; exact ⟨_, h.2, fun K' hK => by simp only [hx]; exact ⟨h.1, hK⟩⟩
    · rename_i hx
      split at h
      · rename_i hr; exact ⟨_, h.2, fun K' hK => by simp only [hx, hr]; exact ⟨h.1, hK⟩⟩
      · exact h.elim
    · rename_i hx; exact ⟨_, h, fun K' hK => by simp only [hx]; exact hK⟩
    · exact h.elim
  · unfold lenTC at h
    unfold coV lenTC
    split at h
    · rename_i hx; exact ⟨_, h, fun K' hK => by simp only [hx]; exact hK⟩
    · exact h.elim
  · unfold idxC at h
    unfold coV idxC
    split at h
    · rename_i hy
      obtain ⟨h0, h⟩ := h
      split at h
      · rename_i hx; exact ⟨_, h.2.2, fun K' hK => by simp only [hx, hy]; exact ⟨h0, h.1, h.2.1, hK⟩⟩
      · rename_i hx
        split at h
        · rename_i hr; exact ⟨_, h.2.2, fun K' hK => by simp only [hx, hy, hr]; exact ⟨h0, h.1, h.2.1, hK⟩⟩
        · exact h.elim
      · rename_i hx; exact ⟨_, h.2, fun K' hK => by simp only [hx, hy]; exact ⟨h0, h.1, hK⟩⟩
      · exact h.elim
    · exact h.elim
  · unfold fldC at h
    unfold coV fldC
    split at h
    · rename_i hx; exact ⟨_, h, fun K' hK => by simp only [hx]; exact hK⟩
    · rename_i hx; exact ⟨_, h, fun K' hK => by simp only [hx]; exact hK⟩
    · rename_i hx
      split at h
      · rename_i hr; exact ⟨_, h, fun K' hK => by simp only [hx, hr]; exact hK⟩
      · exact h.elim
    · exact h.elim
  · exact load1V_det h
  · unfold loadNV at h
    unfold coV loadNV
    split at h
    · rename_i hx; exact ⟨_, h.2, fun K' hK => by simp only [hx]; exact ⟨h.1, hK⟩⟩
    · rename_i hx
      split at h
      · rename_i hr; exact ⟨_, h.2.2, fun K' hK => by simp only [hx, hr]; exact ⟨h.1, h.2.1, hK⟩⟩
      · exact h.elim
    · rename_i hx
      split at h
      · rename_i hr; exact ⟨_, h.2.2, fun K' hK => by simp only [hx, hr]; exact ⟨h.1, h.2.1, hK⟩⟩
      · exact h.elim
    · exact h.elim
  · unfold buildC at h
    unfold coV buildC
    split at h
    · rename_i hx; exact ⟨_, h, fun K' hK => by simp only [hx]; exact hK⟩
    · exact h.elim
  · unfold convC at h
    unfold coV convC
    split at h
    · rename_i hx; exact ⟨_, h, fun K' hK => by simp only [hx]; exact hK⟩
    · exact h.elim
  · unfold nilCheckW at h
    unfold coV nilCheckW
    split at h
    · rename_i hx; exact ⟨_, h, fun K' hK => by simp only [hx]; exact hK⟩
    · rename_i hx
      split at h
      · rename_i hr; exact ⟨_, h, fun K' hK => by simp only [hx, hr]; exact hK⟩
      · exact h.elim
    · rename_i hx; exact ⟨_, h, fun K' hK => by simp only [hx]; exact hK⟩
    · rename_i hx; exact ⟨_, h, fun K' hK => by simp only [hx]; exact hK⟩
    · exact h.elim
  · exact ⟨_, h, fun _ h => h⟩
  · unfold mmW at h
    unfold coV mmW
    split at h
    · rename_i hx hy; exact ⟨_, h, fun K' hK => by simp only [hx, hy]; exact hK⟩
    · exact h.elim
  · obtain ⟨x, hK, hall⟩ := h
    exact ⟨x, hK, fun K' hK' => ⟨x, hK', hall⟩⟩
  · exact h.elim

theorem coV_congr {c : CO} {ρ ρ' : Operand → A} {K : A → Prop} (hρ : ∀ x ∈ c.reads, ρ' x = ρ x) (h : coV P n c ρ S K) : coV P n c ρ' S K := by
  cases c <;> simp only [CO.reads, List.mem_cons, List.not_mem_nil, or_false, forall_eq_or_imp, forall_eq] at hρ <;> simp only [coV] at h ⊢
  case build zs pl parts =>
    have : (parts.map fun p => (p.1, ρ' p.2)) = parts.map fun p => (p.1, ρ p.2) := List.map_congr_left fun p hp => by rw [hρ _ (List.mem_map.2 ⟨p, hp, rfl⟩)]
    rw [this]; exact h
  case mkf d f caps =>
    have : caps.map ρ' = caps.map ρ := List.map_congr_left fun p hp => hρ p hp
    rw [this]; exact h
  case call d f as =>
    cases d with
    | none => exact h
    | some d =>
      obtain ⟨x, hK, hall⟩ := h
      refine ⟨x, hK, fun d e R' Kc h1 h2 h3 => hall d e R' Kc h1 (fun y hy => (h2 y hy).trans ?_) h3⟩
      rcases List.mem_cons.1 hy with rfl | hy
      · exact hρ.1
      · exact hρ.2 y hy
  all_goals first
    | exact h
    | (rw [hρ]; exact h)
    | (rw [hρ.1, hρ.2]; exact h)
    | (rw [hρ.1, hρ.2.1, hρ.2.2]; exact h)

/-- What holds where no root can be read holds with any roots. -/
theorem coV_dead {c : CO} {ρ : Operand → A} {K : A → Prop} {e : Nat → A} (h : coV P n c ρ ⟨e, fun _ => .dead⟩ K) : coV P n c ρ S K := by
  cases c <;> simp only [coV] at h ⊢
  case lenS => unfold lenC at h ⊢; split at h <;> first | exact h | exact h.elim
  case idx =>
    unfold idxC at h ⊢
    split at h
    · refine ⟨h.1, ?_⟩
      have h2 := h.2
      split at h2 <;> first | exact h2 | exact h2.elim
    · exact h.elim
  case fld => unfold fldC at h ⊢; split at h <;> first | exact h | exact h.elim
  case load1 => unfold load1V at h ⊢; split at h <;> first | exact h | exact h.elim
  case loadN => unfold loadNV at h ⊢; split at h <;> first | exact h | exact h.elim
  case nilc => unfold nilCheckW at h ⊢; split at h <;> first | exact h | exact h.elim
  case call d f as =>
    cases d with
    | none => exact h
    | some d =>
      obtain ⟨x, hK, hall⟩ := h
      exact ⟨x, hK, fun d e' R' Kc h1 h2 h3 => hall d e' R' Kc (fun r => .inl rfl) h2 h3⟩
  all_goals exact h

theorem coV_sound {c : CO} {d : Nat} (hd : c.dst = some d) {K : St → Prop} (h : coV P n c S.ev S (putK S d K)) : coW P n c K S := by
  cases c <;> simp only [CO.dst, Option.some.injEq, reduceCtorEq] at hd <;> simp only [coV] at h <;> simp only [coW] <;> (try subst hd) <;> try exact h
  case load1 d x =>
    unfold load1V at h
    unfold load1C
    split at h
    · rename_i hx; rw [hx]; exact h
    · rename_i hx; rw [hx]
      split at h
      · rename_i hr; simp only [hr]
        refine ⟨h.1, ?_⟩
        have h2 := h.2
        split at h2
        · rename_i hl; simp only [hl]; exact h2
        · rename_i hl; simp only [hl]
          intro c hc
          have h3 := h2 c hc
          cases c <;> first | exact h3 | (simp [T.flat] at h3)
      · exact h.elim
    · rename_i hx; rw [hx]
      split at h
      · rename_i hr; simp only [hr]
        refine ⟨h.1, ?_⟩
        have h2 := h.2
        split at h2
        · rename_i hl; simp only [hl]; exact h2
        · rename_i hl; simp only [hl]
          intro c hc
          have h3 := h2 c hc
          cases c <;> first | exact h3 | (simp [T.flat] at h3)
      · exact h.elim
    · exact h.elim
  case call f as =>
    obtain ⟨x, hK, hall⟩ := h
    exact hall d S.env S.roots K (fun r => .inr rfl) (fun y _ => rfl) hK
end
end Go.Ab
