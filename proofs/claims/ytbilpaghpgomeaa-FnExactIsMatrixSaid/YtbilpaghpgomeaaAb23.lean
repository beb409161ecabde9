/- The abstract layer, part 23: operations that change roots: what they do is determined by the slots that they look at and by the roots. -/
import Derived.Test.YtbilpaghpgomeaaAb22
set_option linter.unusedSimpArgs false
set_option linter.unusedVariables false
namespace Go.Ab

def putE (e : Nat → A) (d : Option Nat) (x : A) : Nat → A := match d with | some d => upd e d x | none => e

def CO.heavy : CO → Bool
  | .store .. | .alloc .. | .box .. | .bslice .. | .make .. | .app .. | .load1 .. | .call .. => true
  | _ => false

/-- A call whose outcome is determined. -/
def CallH (P : Program) (n : Nat) (d : Option Nat) (f : Operand) (as : List Operand) (K : St → Prop) (S : St) : Prop :=
  ∃ x R', K ⟨putE S.env d x, R'⟩ ∧ ∀ (e : Nat → A) (Kc : St → Prop), (∀ y, y ∈ f :: as → St.ev ⟨e, S.roots⟩ y = S.ev y) → Kc ⟨putE e d x, R'⟩ → CallW P n d f as Kc ⟨e, S.roots⟩

def coH (P : Program) (n : Nat) : CO → (St → Prop) → St → Prop
  | .call d f as, K, S => CallH P n d f as K S
  | c, K, S => coW P n c K S

section
variable {P : Program} {n : Nat} {S : St}

theorem giveW_loc {a : A} {K : T → St → Prop} (h : giveW S a K) : ∃ t R', K t ⟨S.env, R'⟩ ∧ ∀ e (K' : T → St → Prop), K' t ⟨e, R'⟩ → giveW ⟨e, S.roots⟩ a K' := by
  unfold giveW at h ⊢
  split at h
  · exact ⟨_, S.roots, h.2, fun e K' hK => ⟨h.1, hK⟩⟩
  · split at h
    · rename_i hr
      exact ⟨_, _, h, fun e K' hK => by simp only [hr]; exact hK⟩
    · exact h.elim
  · exact h.elim

theorem giveL_loc : ∀ {as : List A} {S : St} {K : List T → St → Prop}, giveL S as K → ∃ ts R', K ts ⟨S.env, R'⟩ ∧ ∀ e (K' : List T → St → Prop), K' ts ⟨e, R'⟩ → giveL ⟨e, S.roots⟩ as K'
  | [], S, K, h => ⟨[], S.roots, h, fun _ _ h => h⟩
  | a :: as, S, K, h => by
    obtain ⟨t, R1, h1, h2⟩ := giveW_loc (h : giveW S a _)
    obtain ⟨ts, R2, h3, h4⟩ := giveL_loc h1
    exact ⟨t :: ts, R2, h3, fun e K' hK => h2 e _ (h4 e _ hK)⟩

theorem baseW_loc {x : A} {z : Nat} {K : List T → St → Prop} (h : baseW S x z K) : ∃ t R', K t ⟨S.env, R'⟩ ∧ ∀ e (K' : List T → St → Prop), K' t ⟨e, R'⟩ → baseW ⟨e, S.roots⟩ x z K' := by
  unfold baseW at h ⊢
  split at h
  · exact ⟨_, S.roots, h, fun e K' hK => hK⟩
  · split at h
    · rename_i hr
      exact ⟨_, _, h.2, fun e K' hK => by simp only [hr]; exact ⟨h.1, hK⟩⟩
    · exact h.elim
  · exact h.elim

theorem srcW_loc {x : A} {z : Nat} {K : List T → St → Prop} (h : srcW S x z K) : ∃ t R', K t ⟨S.env, R'⟩ ∧ ∀ e (K' : List T → St → Prop), K' t ⟨e, R'⟩ → srcW ⟨e, S.roots⟩ x z K' := by
  unfold srcW at h ⊢
  split at h
  · exact ⟨_, S.roots, h, fun e K' hK => hK⟩
  · exact ⟨_, S.roots, h.2.2, fun e K' hK => ⟨h.1, h.2.1, hK⟩⟩
  · rename_i q
    split at h
    · rename_i s l hr
      obtain ⟨h1, h2, h3⟩ := h
      cases hf : l.all T.flat
      · rw [hf] at h3
        exact ⟨l, _, h3, fun e K' hK => by simp only [hr]; exact ⟨h1, h2, by rw [hf]; exact hK⟩⟩
      · rw [hf] at h3
        exact ⟨l, _, h3, fun e K' hK => by simp only [hr]; exact ⟨h1, h2, by rw [hf]; exact hK⟩⟩
    · exact h.elim
  · split at h
    · rename_i hr
      exact ⟨_, S.roots, h.2.2.2.2, fun e K' hK => by simp only [hr]; exact ⟨h.1, h.2.1, h.2.2.1, h.2.2.2.1, hK⟩⟩
    · exact h.elim
  · exact h.elim

theorem newK_loc {d : Nat} {mk : List T → T} {K : St → Prop} {ts : List T} (h : newK d mk K ts S) : ∃ x R', K ⟨upd S.env d x, R'⟩ ∧ ∀ e (K' : St → Prop), K' ⟨upd e d x, R'⟩ → newK d mk K' ts ⟨e, S.roots⟩ :=
  ⟨_, _, h.2, fun e K' hK => ⟨h.1, hK⟩⟩

theorem storeK_loc {r off z : Nat} {K : St → Prop} {ts : List T} (h : storeK r off z K ts S) : ∃ R', K ⟨S.env, R'⟩ ∧ ∀ e (K' : St → Prop), K' ⟨e, R'⟩ → storeK r off z K' ts ⟨e, S.roots⟩ := by
  unfold storeK at h ⊢
  split at h
  · rename_i hr
    exact ⟨_, h.2.2, fun e K' hK => by simp only [hr]; exact ⟨h.1, h.2.1, hK⟩⟩
  · exact h.elim

theorem loadC_loc {r off d : Nat} {l : List T} {lk : List (Nat × Nat)} {c : T} {K : St → Prop} (h : loadC S r off d l lk c K) :
    ∃ x R', K ⟨upd S.env d x, R'⟩ ∧ ∀ e (K' : St → Prop), K' ⟨upd e d x, R'⟩ → loadC ⟨e, S.roots⟩ r off d l lk c K' := by
  unfold loadC at h ⊢
  split at h
  · exact ⟨_, _, h.2, fun e K' hK => ⟨h.1, hK⟩⟩
  · exact ⟨_, _, h.2, fun e K' hK => ⟨h.1, hK⟩⟩
  · exact ⟨_, S.roots, h.2, fun e K' hK => ⟨h.1, hK⟩⟩

theorem addrA_env (e : Nat → A) (x : A) : addrA ⟨e, S.roots⟩ x = addrA S x := rfl

theorem load1C_loc {x : A} {d : Nat} {K : St → Prop} (h : load1C x d K S) : ∃ v R', K ⟨upd S.env d v, R'⟩ ∧ ∀ e (K' : St → Prop), K' ⟨upd e d v, R'⟩ → load1C x d K' ⟨e, S.roots⟩ := by
  unfold load1C at h ⊢
  split at h
  · obtain ⟨c, hc⟩ := exists_of_lt h.1
    exact ⟨_, S.roots, h.2 c hc, fun e K' hK => ⟨h.1, fun c' hc' => by rw [hc] at hc'; cases hc'; exact hK⟩⟩
  · split at h
    · rename_i hr
      obtain ⟨h0, h⟩ := h
      split at h
      · rename_i hl
        exact ⟨_, S.roots, h, fun e K' hK => by simp only [hr, hl]; exact ⟨h0, hK⟩⟩
      · rename_i hl
        obtain ⟨c, hc⟩ := exists_of_lt h0
        obtain ⟨v, R', h1, h2⟩ := loadC_loc (h c hc)
        exact ⟨v, R', h1, fun e K' hK => by simp only [hr, hl]; exact ⟨h0, fun c' hc' => by rw [hc] at hc'; cases hc'; exact h2 e K' hK⟩⟩
    · exact h.elim
  · split at h
    · rename_i hr
      obtain ⟨h0, h⟩ := h
      split at h
      · rename_i hl
        exact ⟨_, S.roots, h, fun e K' hK => by simp only [hr, hl]; exact ⟨h0, hK⟩⟩
      · rename_i hl
        obtain ⟨c, hc⟩ := exists_of_lt h0
        obtain ⟨v, R', h1, h2⟩ := loadC_loc (h c hc)
        exact ⟨v, R', h1, fun e K' hK => by simp only [hr, hl]; exact ⟨h0, fun c' hc' => by rw [hc] at hc'; cases hc'; exact h2 e K' hK⟩⟩
    · exact h.elim
  · exact h.elim

/-- What an operation that changes roots does. -/
theorem coH_det {c : CO} {K : St → Prop} (hk : c.heavy = true) (h : coH P n c K S) :
    ∃ x R', K ⟨putE S.env c.dst x, R'⟩ ∧ ∀ (e : Nat → A) (Kc : St → Prop), (∀ y ∈ c.reads, St.ev ⟨e, S.roots⟩ y = S.ev y) → Kc ⟨putE e c.dst x, R'⟩ → coW P n c Kc ⟨e, S.roots⟩ := by
  cases c <;> simp only [CO.heavy, Bool.false_eq_true] at hk <;> simp only [coH, coW] at h <;> simp only [CO.dst, CO.reads, putE, coW, List.mem_cons, List.not_mem_nil, or_false, forall_eq_or_imp, forall_eq]
  case store z x v =>
    unfold storeC at h
    split at h
    · rename_i h1 h2
      obtain ⟨ts, R1, h3, h4⟩ := giveL_loc h.2
      obtain ⟨R2, h5, h6⟩ := storeK_loc h3
      refine ⟨.t .any, R2, h5, fun e Kc hr hK => ?_⟩
      unfold storeC
      rw [hr.1, hr.2, addrA_env, h1, h2]
      exact ⟨h.1, h4 e _ (h6 e _ hK)⟩
    · exact h.elim
  case alloc d zs =>
    obtain ⟨x, R', h1, h2⟩ := newK_loc h
    exact ⟨x, R', h1, fun e Kc _ hK => h2 e Kc hK⟩
  case box d x =>
    unfold boxW at h ⊢
    split at h
    · rename_i h1
      obtain ⟨ts, R1, h3, h4⟩ := giveL_loc h
      obtain ⟨y, R', h5, h6⟩ := newK_loc h3
      exact ⟨y, R', h5, fun e Kc hr hK => by rw [hr]; simp only [h1]; exact h4 e _ (h6 e _ hK)⟩
    · exact h.elim
  case bslice d z len parts =>
    unfold bsliceC at h ⊢
    split at h
    · rename_i h1
      obtain ⟨ts, R1, h3, h4⟩ := giveL_loc h
      obtain ⟨y, R', h5, h6⟩ := newK_loc h3
      refine ⟨y, R', h5, fun e Kc hr hK => ?_⟩
      have : (parts.map fun p => (p.1, St.ev ⟨e, S.roots⟩ p.2)) = parts.map fun p => (p.1, S.ev p.2) := List.map_congr_left fun p hp => by rw [hr _ (List.mem_map.2 ⟨p, hp, rfl⟩)]
      rw [this]; simp only [h1]; exact h4 e _ (h6 e _ hK)
    · exact h.elim
  case make d zs eb l c =>
    unfold makeC at h ⊢
    split at h
    · rename_i h1 h2
      obtain ⟨y, R', h5, h6⟩ := newK_loc h.2.2.2
      exact ⟨y, R', h5, fun e Kc hr hK => by rw [hr.1, hr.2]; simp only [h1, h2]; exact ⟨h.1, h.2.1, h.2.2.1, h6 e _ hK⟩⟩
    · exact h.elim
  case app d z eb b x =>
    obtain ⟨l1, R1, h1, h2⟩ := baseW_loc h
    obtain ⟨l2, R2, h3, h4⟩ := srcW_loc (show srcW _ _ _ _ from h1)
    obtain ⟨y, R', h5, h6⟩ := newK_loc (show newK _ _ _ _ _ from h3.2)
    refine ⟨y, R', h5, fun e Kc hr hK => ?_⟩
    rw [hr.1, hr.2]
    refine h2 e _ ?_
    exact h4 e _ ⟨h3.1, h6 e _ hK⟩
  case load1 d x =>
    obtain ⟨y, R', h5, h6⟩ := load1C_loc h
    exact ⟨y, R', h5, fun e Kc hr hK => by rw [hr]; exact h6 e _ hK⟩
  case call d f as =>
    obtain ⟨x, R', h1, h2⟩ := h
    exact ⟨x, R', h1, fun e Kc hr hK => h2 e Kc (fun y hy => by rcases List.mem_cons.1 hy with rfl | hy; exact hr.1; exact hr.2 y hy) hK⟩
end
end Go.Ab
