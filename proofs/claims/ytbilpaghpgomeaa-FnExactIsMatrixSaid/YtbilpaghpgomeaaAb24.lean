/- The abstract layer, part 24: a region that draws its order. -/
import Derived.Test.YtbilpaghpgomeaaAb23
set_option linter.unusedSimpArgs false
set_option linter.unusedVariables false
namespace Go.Ab

/-- The kind of an item: e looks at slots and shared data only, r reads roots too, h changes roots. -/
inductive DK where
  | e | r | h
deriving DecidableEq

def slotsOf (l : List Operand) : List Nat := l.filterMap fun | .tmp t => some t | _ => none
def CI.reads : CI → List Nat
  | .o c => slotsOf c.reads
  | .g s _ _ c => s :: slotsOf c.reads
def CI.dst : CI → Option Nat
  | .o c => c.dst
  | .g _ _ d _ => d
def itemOK : DK × CI → Bool
  | (k, .o c) => k != .h || c.heavy
  | (k, .g _ _ d c) => (k != .h || c.heavy) && d == c.dst

def putD (S : St) (d : Option Nat) (K : St → Prop) (a : A) : Prop := K ⟨putE S.env d a, S.roots⟩
theorem putD_apply (S : St) (d : Nat) (K : St → Prop) (a : A) : putD S (some d) K a = K ⟨upd S.env d a, S.roots⟩ := rfl

def valD (P : Program) (n : Nat) : DK → CO → (St → Prop) → St → Prop
  | .h, c, K, S => coH P n c K S
  | .r, c, K, S => coV P n c S.ev S (putD S c.dst K)
  | .e, c, K, S => coV P n c S.ev ⟨S.env, fun _ => .dead⟩ (putD S c.dst K)
def itemD (P : Program) (n : Nat) : DK → CI → (St → Prop) → St → Prop
  | k, .o c, K, S => valD P n k c K S
  | k, .g s want d c, K, S => guardC (S.env s) s want d (valD P n k c K) K S
def drawW (P : Program) (n : Nat) : List (DK × CI) → (St → Prop) → St → Prop
  | [], K, S => K S
  | (k, c) :: l, K, S => itemD P n k c (drawW P n l K) S

/-- What an item does, whoever else has run. -/
def LocAt (P : Program) (n : Nat) (k : DK) (c : CI) (S : St) (x : A) (R' : Nat → Root) : Prop :=
  ∀ (e : Nat → A) (R : Nat → Root) (Kc : St → Prop), (∀ s ∈ c.reads, e s = S.env s) → (k = .e ∨ R = S.roots) → Kc ⟨putE e c.dst x, if k = .h then R' else R⟩ → opsW P n [c] Kc ⟨e, R⟩

section
variable {P : Program} {n : Nat} {S : St}

theorem ev_agree {e e' : Nat → A} {R R' : Nat → Root} {l : List Operand} (h : ∀ s ∈ slotsOf l, e s = e' s) : ∀ y ∈ l, St.ev ⟨e, R⟩ y = St.ev ⟨e', R'⟩ y := by
  intro y hy
  cases y with
  | tmp t => exact h t (List.mem_filterMap.2 ⟨_, hy, rfl⟩)
  | _ => rfl

theorem valD_loc {k : DK} {c : CO} {K : St → Prop} (hk : (k != .h || c.heavy) = true) (h : valD P n k c K S) :
    ∃ x R', (k ≠ .h → R' = S.roots) ∧ K ⟨putE S.env c.dst x, R'⟩ ∧ ∀ (e : Nat → A) (R : Nat → Root) (Kc : St → Prop), (∀ s ∈ slotsOf c.reads, e s = S.env s) → (k = .e ∨ R = S.roots) → Kc ⟨putE e c.dst x, if k = .h then R' else R⟩ → coW P n c Kc ⟨e, R⟩ := by
  have val : ∀ S0 : St, coV P n c S.ev S0 (putD S c.dst K) → ∃ x, K ⟨putE S.env c.dst x, S.roots⟩ ∧ ∀ (e : Nat → A) (R : Nat → Root) (Kc : St → Prop), (∀ s ∈ slotsOf c.reads, e s = S.env s) → ((∀ K', coV P n c S.ev S0 K' → coV P n c S.ev ⟨e, R⟩ K')) → Kc ⟨putE e c.dst x, R⟩ → coW P n c Kc ⟨e, R⟩ := by
    intro S0 h
    obtain ⟨x, hK, hall⟩ := coV_det h
    refine ⟨x, hK, fun e R Kc he hR hKc => ?_⟩
    cases hd : c.dst with
    | none => cases c <;> simp only [CO.dst, reduceCtorEq] at hd <;> simp only [coV] at h <;> (try subst hd) <;> exact h.elim
    | some d =>
      refine coV_sound hd ?_
      refine coV_congr (ρ := S.ev) (fun y hy => ev_agree (R := R) (R' := S.roots) he y hy) ?_
      refine hR _ (hall _ ?_)
      rw [hd] at hKc; exact hKc
  cases k with
  | h =>
    have hk' : c.heavy = true := by simpa using hk
    obtain ⟨x, R', h1, h2⟩ := coH_det hk' h
    refine ⟨x, R', fun h => absurd rfl h, h1, fun e R Kc he hR hKc => ?_⟩
    have hR : R = S.roots := by rcases hR with h | h; exact absurd h (by simp); exact h
    subst hR
    exact h2 e Kc (fun y hy => ev_agree he y hy) hKc
  | r =>
    obtain ⟨x, h1, h2⟩ := val S h
    refine ⟨x, S.roots, fun _ => rfl, h1, fun e R Kc he hR hKc => ?_⟩
    have hR : R = S.roots := by rcases hR with h | h; exact absurd h (by simp); exact h
    subst hR
    refine h2 e _ Kc he (fun K' hK' => ?_) hKc
    revert hK'
    cases c <;> first
      | exact fun h => h
      | (rename_i d _ _; cases d <;> exact fun h => h)
  | e =>
    obtain ⟨x, h1, h2⟩ := val _ h
    exact ⟨x, S.roots, fun _ => rfl, h1, fun e R Kc he hR hKc => h2 e _ Kc he (fun K' hK' => coV_dead hK') hKc⟩

theorem itemD_loc {k : DK} {c : CI} {K : St → Prop} (hok : itemOK (k, c) = true) (h : itemD P n k c K S) :
    ∃ x R', (k ≠ .h → R' = S.roots) ∧ K ⟨putE S.env c.dst x, R'⟩ ∧ LocAt P n k c S x R' := by
  cases c with
  | o c => exact valD_loc hok h
  | g s want d c =>
    simp only [itemOK, Bool.and_eq_true, beq_iff_eq] at hok
    obtain ⟨hk, hd⟩ := hok
    simp only [itemD] at h
    unfold guardC at h
    split at h
    · rename_i b hb
      by_cases hbw : b = want
      · have h1 := h.1 hbw
        rw [env_upd_eq _ _ _ (by rw [hb, hbw])] at h1
        obtain ⟨x, R', h2, h3, h4⟩ := valD_loc hk h1
        refine ⟨x, R', h2, by simp only [CI.dst, hd]; exact h3, fun e R Kc he hR hKc => ?_⟩
        have hes : e s = .t (.v (.bool b)) := (he s (by simp [CI.reads])).trans hb
        simp only [opsW]
        unfold guardC
        simp only [hes]
        refine ⟨fun _ => ?_, fun e' => absurd (hbw.symm.trans e') (by cases want <;> simp)⟩
        rw [env_upd_eq _ _ _ (by rw [hes, hbw])]
        refine h4 e R _ (fun s' hs' => he s' (by simp only [CI.reads, List.mem_cons]; exact .inr hs')) hR ?_
        simp only [CI.dst, hd] at hKc
        exact hKc
      · have e' : b = !want := by cases b <;> cases want <;> simp_all
        have h1 := h.2 e'
        rw [env_upd_eq _ _ _ (by rw [hb, e'])] at h1
        refine ⟨.t .any, S.roots, fun _ => rfl, by cases d <;> exact h1, fun e R Kc he hR hKc => ?_⟩
        have hes : e s = .t (.v (.bool b)) := (he s (by simp [CI.reads])).trans hb
        simp only [opsW]
        unfold guardC
        simp only [hes]
        refine ⟨fun h => absurd h hbw, fun _ => ?_⟩
        rw [env_upd_eq _ _ _ (by rw [hes, e'])]
        have hR' : (if k = .h then S.roots else R) = R := by
          split
          · rename_i hkh; rcases hR with h | h
            · rw [hkh] at h; cases h
            · exact h.symm
          · rfl
        rw [hR'] at hKc
        cases d <;> exact hKc
    · exact h.elim

def dstAt (l : List (DK × CI)) (i : Nat) : Option Nat := (l[i]?).bind fun p => p.2.dst

/-- The slots behind the first i items. -/
def envAt (l : List (DK × CI)) (v : Nat → A) (e : Nat → A) : Nat → Nat → A
  | 0 => e
  | i + 1 => putE (envAt l v e i) (dstAt l i) (v i)

theorem envAt_cons {p : DK × CI} {l : List (DK × CI)} {v : Nat → A} {e : Nat → A} : ∀ i, envAt (p :: l) v e (i + 1) = envAt l (fun i => v (i + 1)) (putE e p.2.dst (v 0)) i
  | 0 => rfl
  | i + 1 => by
    have ih := envAt_cons (p := p) (l := l) (v := v) (e := e) i
    show putE (envAt (p :: l) v e (i + 1)) (dstAt (p :: l) (i + 1)) (v (i + 1)) = _
    rw [ih]; rfl

theorem draw_chain {K : St → Prop} : ∀ (l : List (DK × CI)) (S : St), (∀ p ∈ l, itemOK p = true) → drawW P n l K S → ∃ (v : Nat → A) (rt : Nat → Nat → Root), rt 0 = S.roots ∧
    (∀ i (h : i < l.length), (l[i].1 ≠ .h → rt (i + 1) = rt i) ∧ LocAt P n l[i].1 l[i].2 ⟨envAt l v S.env i, rt i⟩ (v i) (rt (i + 1))) ∧ K ⟨envAt l v S.env l.length, rt l.length⟩
  | [], S, _, h => ⟨fun _ => .t .any, fun _ => S.roots, rfl, fun i h => absurd h (by simp), h⟩
  | (k, c) :: l, S, hok, h => by
    obtain ⟨x, R', h1, h2, h3⟩ := itemD_loc (hok (k, c) (by simp)) (h : itemD P n k c (drawW P n l K) S)
    obtain ⟨v, rt, h4, h5, h6⟩ := draw_chain l _ (fun p hp => hok p (List.mem_cons_of_mem _ hp)) h2
    refine ⟨fun i => match i with | 0 => x | i + 1 => v i, fun i => match i with | 0 => S.roots | i + 1 => rt i, rfl, fun i hi => ?_, ?_⟩
    · cases i with
      | zero => exact ⟨fun hk => h4.trans (h1 hk), show LocAt P n k c S x (rt 0) by rw [show rt 0 = R' from h4]; exact h3⟩
      | succ i =>
        have hi' : i < l.length := by simpa using hi
        refine ⟨(h5 i hi').1, ?_⟩
        rw [envAt_cons]
        exact (h5 i hi').2
    · simp only [List.length_cons]
      rw [envAt_cons]
      exact h6

-- the order
def kAt (l : List (DK × CI)) (i : Nat) : DK := ((l[i]?).map (·.1)).getD .e
def rdAt (l : List (DK × CI)) (i : Nat) : List Nat := ((l[i]?).map fun p => p.2.reads).getD []

/-- The state when the items of D have run. -/
def AtD (l : List (DK × CI)) (v : Nat → A) (rt : Nat → Nat → Root) (e0 : Nat → A) (D : Nat → Prop) (S : St) : Prop :=
  (∀ s, (∀ j, j < l.length → D j → dstAt l j = some s → S.env s = v j) ∧ ((∀ j, j < l.length → D j → dstAt l j ≠ some s) → S.env s = e0 s)) ∧
  ∀ k, k ≤ l.length → (∀ j, j < k → kAt l j = .h → D j) → (∀ j, k ≤ j → j < l.length → kAt l j = .h → ¬ D j) → S.roots = rt k

def Ord (l : List (DK × CI)) (D : Nat → Prop) (i : Nat) : Prop :=
  ∀ j, j < l.length → j ≠ i → (j < i ∧ D j) ∨ (i < j ∧ ¬ D j) ∨ ((∀ s ∈ rdAt l i, dstAt l j ≠ some s) ∧ ¬ (kAt l i = .h ∧ kAt l j ≠ .e) ∧ ¬ (kAt l j = .h ∧ kAt l i ≠ .e))

theorem envAt_spec {l : List (DK × CI)} {v : Nat → A} {e0 : Nat → A} (hd : ∀ i j, i < l.length → j < l.length → i ≠ j → ∀ s, dstAt l i = some s → dstAt l j ≠ some s) (s : Nat) : ∀ i, i ≤ l.length →
    (∀ j, j < i → dstAt l j = some s → envAt l v e0 i s = v j) ∧ ((∀ j, j < i → dstAt l j ≠ some s) → envAt l v e0 i s = e0 s)
  | 0, _ => ⟨fun j h => absurd h (by omega), fun _ => rfl⟩
  | i + 1, hi => by
    obtain ⟨h1, h2⟩ := envAt_spec (v := v) (e0 := e0) hd s i (by omega)
    simp only [envAt]
    by_cases hs : dstAt l i = some s
    · have hself : putE (envAt l v e0 i) (dstAt l i) (v i) s = v i := by rw [hs]; simp [putE, upd_self]
      refine ⟨fun j hj hjs => ?_, fun h => absurd hs (h i (by omega))⟩
      by_cases hji : j = i
      · subst hji; exact hself
      · exact absurd hs (hd j i (by omega) (by omega) hji s hjs)
    · have hoth : putE (envAt l v e0 i) (dstAt l i) (v i) s = envAt l v e0 i s := by
        cases hx : dstAt l i with
        | none => rfl
        | some d => exact upd_other _ _ _ _ fun e => hs (by rw [hx, e])
      rw [hoth]
      refine ⟨fun j hj hjs => ?_, fun h => h2 fun j hj => h j (by omega)⟩
      by_cases hji : j = i
      · subst hji; exact absurd hjs hs
      · exact h1 j (by omega) hjs

theorem rt_const {rt : Nat → Nat → Root} {H : Nat → Prop} {a : Nat} : ∀ k, (∀ j, a ≤ j → j < a + k → ¬ H j) → (∀ j, a ≤ j → j < a + k → ¬ H j → rt (j + 1) = rt j) → rt (a + k) = rt a
  | 0, _, _ => rfl
  | k + 1, h1, h2 => by
    rw [← Nat.add_assoc, h2 (a + k) (by omega) (by omega) (h1 _ (by omega) (by omega))]
    exact rt_const k (fun j h h' => h1 j h (by omega)) (fun j h h' => h2 j h (by omega))

theorem AtD.step {l : List (DK × CI)} {v : Nat → A} {rt : Nat → Nat → Root} {e0 : Nat → A} {D : Nat → Prop} (hd : ∀ i j, i < l.length → j < l.length → i ≠ j → ∀ s, dstAt l i = some s → dstAt l j ≠ some s)
    (hrt : ∀ j, j < l.length → kAt l j ≠ .h → rt (j + 1) = rt j) {i : Nat} (hi : i < l.length) (hself : ∀ s ∈ rdAt l i, dstAt l i ≠ some s) (hDi : ¬ D i) (ho : Ord l D i) (hAt : AtD l v rt e0 D S) :
    (∀ s ∈ rdAt l i, S.env s = envAt l v e0 i s) ∧ (kAt l i = .e ∨ S.roots = rt i) ∧
      AtD l v rt e0 (fun j => D j ∨ j = i) ⟨putE S.env (dstAt l i) (v i), if kAt l i = .h then rt (i + 1) else S.roots⟩ := by
  obtain ⟨hE, hR⟩ := hAt
  have h2 : kAt l i = .e ∨ S.roots = rt i := by
    by_cases hk : kAt l i = .e
    · exact .inl hk
    · right
      refine hR i (by omega) (fun j hj hjh => ?_) (fun j hj hjm hjh => ?_)
      · rcases ho j (by omega) (by omega) with h | h | h
        · exact h.2
        · omega
        · exact absurd ⟨hjh, hk⟩ h.2.2
      · by_cases hji : j = i
        · rw [hji]; exact hDi
        · rcases ho j hjm hji with h | h | h
          · omega
          · exact h.2
          · exact absurd ⟨hjh, hk⟩ h.2.2
  refine ⟨fun s hs => ?_, h2, fun s => ?_, fun k hk h1 h3 => ?_⟩
  · obtain ⟨ha, hb⟩ := envAt_spec (v := v) (e0 := e0) hd s i (by omega)
    obtain ⟨hc, hdd⟩ := hE s
    by_cases hex : ∃ j, j < l.length ∧ dstAt l j = some s
    · obtain ⟨j, hj, hjs⟩ := hex
      have hji : j ≠ i := fun e => hself s hs (e ▸ hjs)
      rcases ho j hj hji with h | h | h
      · rw [hc j hj h.2 hjs, ha j h.1 hjs]
      · rw [hdd fun j' hj' hD' hs' => ?_, hb fun j' hj' hs' => ?_]
        · by_cases e : j' = j
          · rw [e] at hj'; omega
          · exact hd j' j (by omega) hj e s hs' hjs
        · by_cases e : j' = j
          · rw [e] at hD'; exact h.2 hD'
          · exact hd j' j (by omega) hj e s hs' hjs
      · exact absurd hjs (h.1 s hs)
    · rw [hdd fun j hj _ hjs => hex ⟨j, hj, hjs⟩, hb fun j hj hjs => hex ⟨j, by omega, hjs⟩]
  · obtain ⟨hc, hdd⟩ := hE s
    by_cases hs : dstAt l i = some s
    · have e : putE S.env (dstAt l i) (v i) s = v i := by rw [hs]; simp [putE, upd_self]
      refine ⟨fun j hj hD hjs => ?_, fun h => absurd hs (h i hi (.inr rfl))⟩
      show putE S.env (dstAt l i) (v i) s = v j
      rw [e]
      by_cases hji : j = i
      · rw [hji]
      · exact absurd hs (hd j i hj hi hji s hjs)
    · have e : putE S.env (dstAt l i) (v i) s = S.env s := by
        cases hx : dstAt l i with
        | none => rfl
        | some d => exact upd_other _ _ _ _ fun e => hs (by rw [hx, e])
      refine ⟨fun j hj hD hjs => ?_, fun h => ?_⟩
      · show putE S.env (dstAt l i) (v i) s = v j
        rw [e]
        rcases hD with hD | rfl
        · exact hc j hj hD hjs
        · exact absurd hjs hs
      · show putE S.env (dstAt l i) (v i) s = e0 s
        rw [e]
        exact hdd fun j hj hD => h j hj (.inl hD)
  · by_cases hkh : kAt l i = .h
    · show (if kAt l i = .h then rt (i + 1) else S.roots) = rt k
      rw [if_pos hkh]
      have hik : i + 1 ≤ k := by
        rcases Nat.lt_or_ge i k with h | h
        · omega
        · exact absurd (.inr rfl) (h3 i h hi hkh)
      obtain ⟨c, rfl⟩ : ∃ c, k = i + 1 + c := ⟨k - (i + 1), by omega⟩
      refine (rt_const (H := fun j => kAt l j = .h) c (fun j hj hj' hjh => ?_) (fun j hj hj' => hrt j (by omega))).symm
      rcases h1 j hj' hjh with h | h
      · rcases ho j (by omega) (by omega) with h' | h' | h'
        · omega
        · exact h'.2 h
        · exact h'.2.1 ⟨hkh, by rw [hjh]; simp⟩
      · omega
    · show (if kAt l i = .h then rt (i + 1) else S.roots) = rt k
      rw [if_neg hkh]
      refine hR k hk (fun j hj hjh => ?_) (fun j hj hjm hjh hD => h3 j hj hjm hjh (.inl hD))
      rcases h1 j hj hjh with h | h
      · exact h
      · rw [h] at hjh; exact absurd hjh hkh
end
end Go.Ab
