/- The abstract layer, part 14: a state is described anew: slots forgotten, roots renamed or dropped, nil slices taken as owned. -/
import Derived.Test.YtbilpaghpgomeaaAb13
set_option linter.unusedSimpArgs false
set_option linter.unusedVariables false
namespace Go.Ab

def mkEnv : List (Nat × A) → Nat → A
  | [] => fun _ => .t .any
  | (i, a) :: l => upd (mkEnv l) i a
def mkRoots : List (Nat × T) → Nat → Root
  | [] => fun _ => .free
  | (j, t) :: l => upd (mkRoots l) j (.live t [])
def St.of (e : List (Nat × A)) (r : List (Nat × T)) : St := ⟨mkEnv e, mkRoots r⟩

/-- t0 reads as t, too. -/
inductive Le : T → T → Prop
  | refl (t : T) : Le t t
  | any (t : T) : Le t .any
  | nilSh (s : Nat) : Le (.v (.slice none 0 0)) (.sh s [])
  | nilArr (s : Nat) : Le (.v (.slice none 0 0)) (.arr s [])
  | arr (s : Nat) {l l' : List T} (h : l.length = l'.length) (hr : ∀ i (h : i < l.length) (h' : i < l'.length), Le l[i] l'[i]) : Le (.arr s l) (.arr s l')
  | box {l l' : List T} (h : l.length = l'.length) (hr : ∀ i (h : i < l.length) (h' : i < l'.length), Le l[i] l'[i]) : Le (.box l) (.box l')
  | agg {l l' : List T} (h : l.length = l'.length) (hr : ∀ i (h : i < l.length) (h' : i < l'.length), Le l[i] l'[i]) : Le (.agg l) (.agg l')
  | tup {l l' : List T} (h : l.length = l'.length) (hr : ∀ i (h : i < l.length) (h' : i < l'.length), Le l[i] l'[i]) : Le (.tup l) (.tup l')

theorem ow_of_rd_list {w : World} {O : Nat → Prop} {l : List T} {vs : List Value} (hr : ∀ i (h : i < l.length), Rd w O l[i] (vs.getD i undef)) :
    ∀ i (h : i < l.length), Ow w O l[i] (vs.getD i undef) ((List.replicate l.length ([] : List Nat)).getD i []) := fun i h => by
  rw [List.getD_eq_getElem?_getD (l := List.replicate _ _), List.getElem?_replicate, if_pos h]; exact .rd (hr i h)

theorem choose_fps {w : World} {O : Nat → Prop} : ∀ {l l' : List T} {vs : List Value} {fps : List (List Nat)}, l.length = l'.length → fps.length = l.length →
    (∀ i (h : i < l.length) (h' : i < l'.length) {x : Value} {fp : List Nat}, Ow w O l[i] x fp → ∃ fp', Ow w O l'[i] x fp' ∧ fp'.Sublist fp) →
    (∀ i (h : i < l.length), Ow w O l[i] (vs.getD i undef) (fps.getD i [])) → ∃ fps' : List (List Nat), fps'.length = l'.length ∧ (∀ i (h : i < l'.length), Ow w O l'[i] (vs.getD i undef) (fps'.getD i [])) ∧ fps'.flatten.Sublist fps.flatten
  | [], [], vs, fps, _, _, _, _ => ⟨[], rfl, fun i h => absurd h (by simp), List.nil_sublist _⟩
  | [], _ :: _, _, _, h, _, _, _ => by simp at h
  | _ :: _, [], _, _, h, _, _, _ => by simp at h
  | _ :: _, _ :: _, _, [], _, h, _, _ => by simp at h
  | c :: l, c' :: l', vs, f :: fps, hl, hf, ih, ho => by
    obtain ⟨f', h1, h2⟩ := ih 0 (by simp) (by simp) (ho 0 (by simp))
    obtain ⟨fps', h3, h4, h5⟩ := choose_fps (l := l) (l' := l') (vs := vs.tail) (fps := fps) (by simpa using hl) (by simpa using hf)
      (fun i h h' x fp hx => by have := ih (i + 1) (by simpa using h) (by simpa using h') (x := x) (fp := fp); simp only [List.getElem_cons_succ] at this; exact this hx)
      (fun i h => by
        have := ho (i + 1) (by simpa using h)
        simp only [List.getElem_cons_succ, List.getD_cons_succ] at this
        have e : vs.getD (i + 1) undef = vs.tail.getD i undef := by cases vs <;> simp [List.getD_eq_getElem?_getD]
        rwa [e] at this)
    refine ⟨f' :: fps', by simp [h3], fun i h => ?_, ?_⟩
    · cases i with
      | zero => simpa only [List.getElem_cons_zero, List.getD_cons_zero] using h1
      | succ i =>
        have := h4 i (by simpa using h)
        have e : vs.getD (i + 1) undef = vs.tail.getD i undef := by cases vs <;> simp [List.getD_eq_getElem?_getD]
        rw [e]
        simpa only [List.getElem_cons_succ, List.getD_cons_succ] using this
    · rw [List.flatten_cons, List.flatten_cons]; exact List.Sublist.append (by simpa only [List.getD_cons_zero] using h2) h5

theorem Le.ow {w : World} {O : Nat → Prop} {t t' : T} (h : Le t t') : ∀ {x : Value} {fp : List Nat}, Ow w O t x fp → ∃ fp', Ow w O t' x fp' ∧ fp'.Sublist fp := by
  induction h with
  | refl t => exact fun h => ⟨_, h, List.Sublist.refl _⟩
  | any t => exact fun h => ⟨[], .rd (.any _), List.nil_sublist _⟩
  | nilSh s =>
    intro x fp h
    cases h with | rd h => cases h; exact ⟨[], .rd (.shNil s), List.nil_sublist _⟩
  | nilArr s =>
    intro x fp h
    cases h with | rd h => cases h; exact ⟨[], .arrNil s, List.nil_sublist _⟩
  | arr s hl hr ih =>
    intro x fp h
    cases h with
    | rd h => cases h
    | arrNil =>
      rename_i l'
      have : l' = [] := List.eq_nil_of_length_eq_zero (by simpa using hl.symm)
      subst this; exact ⟨[], .arrNil s, List.nil_sublist _⟩
    | arr _ _ b len cap cs e fps hb hlen hc hm hsz hf ho =>
      obtain ⟨fps', h1, h2, h3⟩ := choose_fps (vs := cs.toList) hl hf (fun i h h' x fp => ih i h h') (fun i h => by simpa [Array.getD_eq_getD_getElem?, List.getD_eq_getElem?_getD] using ho i h)
      exact ⟨b :: fps'.flatten, .arr s _ b len cap cs e fps' hb (by omega) hc hm hsz (by omega) (fun i h => by simpa [Array.getD_eq_getD_getElem?, List.getD_eq_getElem?_getD] using h2 i h), h3.cons_cons b⟩
  | box hl hr ih =>
    intro x fp h
    cases h with
    | rd h => cases h
    | box _ b cs e fps hb hlen hf ho =>
      obtain ⟨fps', h1, h2, h3⟩ := choose_fps (vs := cs.toList) hl hf (fun i h h' x fp => ih i h h') (fun i h => by simpa [Array.getD_eq_getD_getElem?, List.getD_eq_getElem?_getD] using ho i h)
      exact ⟨b :: fps'.flatten, .box _ b cs e fps' hb (by omega) (by omega) (fun i h => by simpa [Array.getD_eq_getD_getElem?, List.getD_eq_getElem?_getD] using h2 i h), h3.cons_cons b⟩
  | agg hl hr ih =>
    intro x fp h
    cases h with
    | rd h =>
      cases h with
      | agg _ vs hlen hc =>
        obtain ⟨fps', h1, h2, h3⟩ := choose_fps (vs := vs) hl (by simp) (fun i h h' x fp => ih i h h') (ow_of_rd_list hc)
        exact ⟨fps'.flatten, .agg _ vs fps' (by omega) h1 h2, by simpa using h3⟩
    | agg _ vs fps hlen hf ho =>
      obtain ⟨fps', h1, h2, h3⟩ := choose_fps (vs := vs) hl hf (fun i h h' x fp => ih i h h') ho
      exact ⟨fps'.flatten, .agg _ vs fps' (by omega) h1 h2, h3⟩
  | tup hl hr ih =>
    intro x fp h
    cases h with
    | rd h =>
      cases h with
      | tup _ vs hlen hc =>
        obtain ⟨fps', h1, h2, h3⟩ := choose_fps (vs := vs) hl (by simp) (fun i h h' x fp => ih i h h') (ow_of_rd_list hc)
        exact ⟨fps'.flatten, .tup _ vs fps' (by omega) h1 h2, by simpa using h3⟩
    | tup _ vs fps hlen hf ho =>
      obtain ⟨fps', h1, h2, h3⟩ := choose_fps (vs := vs) hl hf (fun i h h' x fp => ih i h h') ho
      exact ⟨fps'.flatten, .tup _ vs fps' (by omega) h1 h2, h3⟩

/-- A slot's description a' follows from a, roots renamed: 'some (some r)': the root r; 'some none': a nil slice taken as owned. -/
def maT (x y : T) : Prop := x = y ∨ ((∃ s, x = .sh s []) ∧ y = .v (.slice none 0 0))

mutual
def maA (π : Nat → Option (Option Nat)) : A → A → Prop
  | .t x, a => (match a with | .t y => x = .any ∨ maT x y | _ => x = .any)
  | .own j, a => (match a with | .own r => π j = some (some r) | .t y => π j = some none ∧ y = .v (.slice none 0 0) | _ => False)
  | .sub j o m, a => (match a with | .sub r o' m' => π j = some (some r) ∧ o = o' ∧ m = m' | _ => False)
  | .ptr j o, a => (match a with | .ptr r o' => π j = some (some r) ∧ o = o' | _ => False)
  | .agg l, a => (match a with | .agg l' => maL π l l' | _ => False)
  | .tup l, a => (match a with | .tup l' => maL π l l' | _ => False)
  | .fn f l, a => (match a with | .fn f' l' => f = f' ∧ maL π l l' | _ => False)
def maL (π : Nat → Option (Option Nat)) : List A → List A → Prop
  | [], l => l = []
  | a :: l, l' => (match l' with | b :: l' => maA π a b ∧ maL π l l' | [] => False)
end

section
variable {w : World} {O O' : Nat → Prop} {hs hs' : Nat → Option Value} {π : Nat → Option (Option Nat)}

theorem maT_rd {x y : T} {v : Value} (h : maT x y) (hr : Rd w O y v) : Rd w O x v := by
  rcases h with rfl | ⟨⟨s, rfl⟩, rfl⟩
  · exact hr
  · cases hr; exact .shNil s

mutual
theorem maA_is (hO : ∀ b, ¬ O b → b < w.heap.size → ¬ O' b) (hh : ∀ j r h, π j = some (some r) → hs r = some h → hs' j = some h) (hn : ∀ j, π j = some none → hs' j = some (.slice none 0 0)) :
    ∀ (a' a : A) {x : Value}, maA π a' a → Is w O hs a x → Is w O' hs' a' x
  | .t y, a, x, h, hx => by
    cases a with
    | t y' =>
      simp only [maA] at h
      rcases h with rfl | h
      · exact .t (.any _)
      · cases hx with | t hx => exact .t ((maT_rd h hx).mono (fun _ _ _ _ _ h => h) hO)
    | _ => simp only [maA] at h; subst h; exact .t (.any _)
  | .own j, a, x, h, hx => by
    cases a with
    | own r => simp only [maA] at h; cases hx with | own hr => exact .own (hh _ _ _ h hr)
    | t y =>
      simp only [maA] at h
      obtain ⟨h1, rfl⟩ := h
      cases hx with | t hx => cases hx; exact .own (hn _ h1)
    | _ => simp only [maA] at h
  | .sub j o m, a, x, h, hx => by
    cases a with
    | sub r o' m' =>
      simp only [maA] at h
      obtain ⟨h1, rfl, rfl⟩ := h
      cases hx with
      | sub hr hc => exact .sub (hh _ _ _ h1 hr) hc
      | subZ hr => exact .subZ (hh _ _ _ h1 hr)
      | subNil hr => exact .subNil (hh _ _ _ h1 hr)
    | _ => simp only [maA] at h
  | .ptr j o, a, x, h, hx => by
    cases a with
    | ptr r o' =>
      simp only [maA] at h
      obtain ⟨h1, rfl⟩ := h
      cases hx with
      | ptrS hr => exact .ptrS (hh _ _ _ h1 hr)
      | ptrP hr => exact .ptrP (hh _ _ _ h1 hr)
    | _ => simp only [maA] at h
  | .agg l, a, x, h, hx => by
    cases a with
    | agg l' =>
      simp only [maA] at h
      cases hx with | agg hl hr => obtain ⟨h1, h2⟩ := maL_is hO hh hn l l' h hr; exact .agg (by omega) h2
    | _ => simp only [maA] at h
  | .tup l, a, x, h, hx => by
    cases a with
    | tup l' =>
      simp only [maA] at h
      cases hx with | tup hl hr => obtain ⟨h1, h2⟩ := maL_is hO hh hn l l' h hr; exact .tup (by omega) h2
    | _ => simp only [maA] at h
  | .fn f l, a, x, h, hx => by
    cases a with
    | fn f' l' =>
      simp only [maA] at h
      obtain ⟨rfl, h⟩ := h
      cases hx with | fn hl hr => obtain ⟨h1, h2⟩ := maL_is hO hh hn l l' h hr; exact .fn (by omega) h2
    | _ => simp only [maA] at h
theorem maL_is (hO : ∀ b, ¬ O b → b < w.heap.size → ¬ O' b) (hh : ∀ j r h, π j = some (some r) → hs r = some h → hs' j = some h) (hn : ∀ j, π j = some none → hs' j = some (.slice none 0 0)) :
    ∀ (l l' : List A) {vs : List Value}, maL π l l' → (∀ i (h : i < l'.length), Is w O hs l'[i] (vs.getD i undef)) → l.length = l'.length ∧ ∀ i (h : i < l.length), Is w O' hs' l[i] (vs.getD i undef)
  | [], l', vs, h, hx => by simp only [maL] at h; subst h; exact ⟨rfl, fun i h => absurd h (by simp)⟩
  | a :: l, [], vs, h, hx => by simp only [maL] at h
  | a :: l, b :: l', vs, h, hx => by
    simp only [maL] at h
    have h0 := maA_is hO hh hn a b h.1 (by have := hx 0 (by simp); simpa only [List.getElem_cons_zero] using this)
    have e : ∀ i, vs.getD (i + 1) undef = vs.tail.getD i undef := fun i => by cases vs <;> simp [List.getD_eq_getElem?_getD]
    obtain ⟨h1, h2⟩ := maL_is hO hh hn l l' (vs := vs.tail) h.2 (fun i hi => by
      have := hx (i + 1) (by simpa using hi)
      rw [e] at this
      simpa only [List.getElem_cons_succ] using this)
    refine ⟨by simp [h1], fun i hi => ?_⟩
    cases i with
    | zero => simpa only [List.getElem_cons_zero] using h0
    | succ i => rw [e]; simpa only [List.getElem_cons_succ] using h2 i (by simpa using hi)
end
end

def envOK (S : St) (π : Nat → Option (Option Nat)) : List (Nat × A) → Prop
  | [] => True
  | (i, a) :: e => maA π a (S.env i) ∧ envOK S π e

def rootsOK (S : St) : List (Nat × T) → List (Option Nat) → Prop
  | [], [] => True
  | (_, t) :: r, some q :: ss => (∃ t0, S.roots q = .live t0 [] ∧ Le t0 t) ∧ t.rooty = true ∧ rootsOK S r ss
  | (_, t) :: r, none :: ss => (∃ s, t = .arr s []) ∧ rootsOK S r ss
  | _, _ => False

def piOf (r : List (Nat × T)) (ss : List (Option Nat)) (j : Nat) : Option (Option Nat) := ((r.map (·.1)).zip ss).lookup j

theorem mkEnv_ma {S : St} {π : Nat → Option (Option Nat)} : ∀ (e : List (Nat × A)), envOK S π e → ∀ i, maA π (mkEnv e i) (S.env i)
  | [], _, i => by simp only [mkEnv]; cases S.env i <;> simp [maA]
  | (k, a) :: e, h, i => by
    simp only [mkEnv, upd_apply]
    split
    · rename_i hk; subst hk; exact h.1
    · exact mkEnv_ma e h.2 i

theorem mkRoots_spec {S : St} : ∀ (r : List (Nat × T)) (ss : List (Option Nat)), rootsOK S r ss → ∀ j,
    (mkRoots r j = .free ∧ piOf r ss j = none) ∨ (∃ t, mkRoots r j = .live t [] ∧ t.rooty = true ∧ ((∃ q t0, piOf r ss j = some (some q) ∧ S.roots q = .live t0 [] ∧ Le t0 t) ∨ (piOf r ss j = some none ∧ ∃ s, t = .arr s [])))
  | [], [], _, j => .inl ⟨rfl, rfl⟩
  | [], _ :: _, h, j => by simp [rootsOK] at h
  | _ :: _, [], h, j => by simp [rootsOK] at h
  | (k, t) :: r, some q :: ss, h, j => by
    obtain ⟨⟨t0, h1, h2⟩, h3, h4⟩ := h
    by_cases hk : j = k
    · subst hk; exact .inr ⟨t, by simp [mkRoots, upd_self], h3, .inl ⟨q, t0, by simp [piOf], h1, h2⟩⟩
    · have e : piOf ((k, t) :: r) (some q :: ss) j = piOf r ss j := by
        have : (j == k) = false := by simpa using hk
        simp [piOf, List.lookup_cons, this]
      have e2 : mkRoots ((k, t) :: r) j = mkRoots r j := by simp [mkRoots, upd_other _ _ _ _ hk]
      rw [e, e2]; exact mkRoots_spec r ss h4 j
  | (k, t) :: r, none :: ss, h, j => by
    obtain ⟨⟨s, rfl⟩, h4⟩ := h
    by_cases hk : j = k
    · subst hk; exact .inr ⟨.arr s [], by simp [mkRoots, upd_self], rfl, .inr ⟨by simp [piOf], s, rfl⟩⟩
    · have e : piOf ((k, .arr s []) :: r) (none :: ss) j = piOf r ss j := by
        have : (j == k) = false := by simpa using hk
        simp [piOf, List.lookup_cons, this]
      have e2 : mkRoots ((k, .arr s []) :: r) j = mkRoots r j := by simp [mkRoots, upd_other _ _ _ _ hk]
      rw [e, e2]; exact mkRoots_spec r ss h4 j

theorem lookup_inj : ∀ {ps : List (Nat × Option Nat)} {j j' q : Nat}, (ps.filterMap (·.2)).Nodup → ps.lookup j = some (some q) → ps.lookup j' = some (some q) → j = j'
  | [], j, j', q, _, h, _ => by simp at h
  | (k, s) :: ps, j, j', q, hn, h, h' => by
    have mem : ∀ {ps : List (Nat × Option Nat)} {j : Nat}, ps.lookup j = some (some q) → q ∈ ps.filterMap (·.2) := by
      intro ps
      induction ps with
      | nil => intro j h; simp at h
      | cons p ps ih =>
        intro j h
        obtain ⟨k, s⟩ := p
        rw [List.lookup_cons] at h
        split at h
        · cases h; simp
        · have := ih h
          cases s with
          | none => simpa using this
          | some s => rw [List.filterMap_cons_some (by rfl)]; exact List.mem_cons_of_mem _ this
    rw [List.lookup_cons] at h h'
    by_cases h1 : j = k <;> by_cases h2 : j' = k
    · omega
    · have e1 : (j == k) = true := by simpa using h1
      have e2 : (j' == k) = false := by simpa using h2
      simp only [e1, e2] at h h'
      cases h
      rw [List.filterMap_cons_some (by rfl)] at hn
      exact ((List.nodup_cons.1 hn).1 (mem h')).elim
    · have e1 : (j == k) = false := by simpa using h1
      have e2 : (j' == k) = true := by simpa using h2
      simp only [e1, e2] at h h'
      cases h'
      rw [List.filterMap_cons_some (by rfl)] at hn
      exact ((List.nodup_cons.1 hn).1 (mem h)).elim
    · have e1 : (j == k) = false := by simpa using h1
      have e2 : (j' == k) = false := by simpa using h2
      simp only [e1, e2] at h h'
      refine lookup_inj (ps := ps) ?_ h h'
      cases s with
      | none => simpa using hn
      | some s => rw [List.filterMap_cons_some (by rfl)] at hn; exact (List.nodup_cons.1 hn).2

theorem Weak.of {n : Nat} {S : St} (e : List (Nat × A)) (r : List (Nat × T)) (ss : List (Option Nat)) (hd : (((r.map (·.1)).zip ss).filterMap (·.2)).Nodup) (hb : ∀ p ∈ (r.map (·.1)).zip ss, p.1 < 1000000000 ∨ p.2 = some p.1) (he : envOK S (piOf r ss) e) (hr : rootsOK S r ss) : Weak n S (St.of e r) := by
  intro X w0 O0 a w hs fp g
  have spec := mkRoots_spec r ss hr
  let hs' : Nat → Option Value := fun j => match piOf r ss j with | some (some q) => hs q | some none => some (.slice none 0 0) | none => none
  have hh : ∀ j q h, piOf r ss j = some (some q) → hs q = some h → hs' j = some h := fun j q h h1 h2 => by simp only [hs', h1]; exact h2
  have hn : ∀ j, piOf r ss j = some none → hs' j = some (.slice none 0 0) := fun j h => by simp only [hs', h]
  have inj : ∀ j j' q, piOf r ss j = some (some q) → piOf r ss j' = some (some q) → j = j' := fun j j' q h h' => lookup_inj hd h h'
  -- the footprints
  have fps : ∀ j, ∃ f : List Nat, ((∃ q t0 t, piOf r ss j = some (some q) ∧ mkRoots r j = .live t [] ∧ t.rooty = true ∧ S.roots q = .live t0 [] ∧ f.Sublist (fp q) ∧ ∃ x, hs' j = some x ∧ Ow w (Ob X fp) t x f) ∨
      (f = [] ∧ piOf r ss j = some none ∧ ∃ s, mkRoots r j = .live (.arr s []) []) ∨ (f = [] ∧ piOf r ss j = none ∧ mkRoots r j = .free)) := by
    intro j
    rcases spec j with ⟨h1, h2⟩ | ⟨t, h1, hrt, ⟨q, t0, h2, h3, h4⟩ | ⟨h2, s, rfl⟩⟩
    · exact ⟨[], .inr (.inr ⟨rfl, h2, h1⟩)⟩
    · have hroot := g.root q
      rw [h3] at hroot
      obtain ⟨x, hx, ho, _⟩ := hroot
      obtain ⟨f, ho', hsub⟩ := h4.ow ho
      exact ⟨f, .inl ⟨q, t0, t, h2, h1, hrt, h3, hsub, x, hh _ _ _ h2 hx, ho'⟩⟩
    · exact ⟨[], .inr (.inl ⟨rfl, h2, s, h1⟩)⟩
  let fp' : Nat → List Nat := fun j => (fps j).choose
  have hfp : ∀ j, _ := fun j => (fps j).choose_spec
  have sub : ∀ j b, b ∈ fp' j → ∃ q, piOf r ss j = some (some q) ∧ b ∈ fp q := by
    intro j b hb
    rcases hfp j with ⟨q, t0, t, h1, _, _, _, h2, _⟩ | ⟨h, _⟩ | ⟨h, _⟩
    · exact ⟨q, h1, h2.subset hb⟩
    · have hb' : b ∈ (fps j).choose := hb; rw [h] at hb'; simp at hb'
    · have hb' : b ∈ (fps j).choose := hb; rw [h] at hb'; simp at hb'
  have hO : ∀ b, ¬ Ob X fp b → b < w.heap.size → ¬ Ob X fp' b := by
    rintro b h1 _ (h | ⟨j, hj⟩)
    · exact h1 (.inl h)
    · obtain ⟨q, _, hq⟩ := sub j b hj; exact h1 (.inr ⟨q, hq⟩)
  refine ⟨hs', fp', g.size, g.defers, fun i => maA_is hO hh hn _ _ (mkEnv_ma e he i) (g.env i), fun j => ?_, fun j j' b h h' => ?_, fun j => ?_, fun j b h => ?_, g.xold, g.xout, fun j b h => ?_, g.hist, fun j t lk h => ?_, fun j h hj => ?_, g.small, fun j h hj0 hj => ?_⟩
  · show RootOK w _ hs' (mkRoots r j) (hs' j) (fp' j)
    rcases hfp j with ⟨q, t0, t, h1, h2, hrt, h3, h4, x, hx, ho⟩ | ⟨h1, h2, s, h3⟩ | ⟨h1, h2, h3⟩
    · rw [h2]; exact ⟨x, hx, ho.mono (fun _ _ _ _ _ h => h) hO (fun _ _ _ _ _ h => h), fun p hp => by simp at hp⟩
    · rw [h3, show fp' j = [] from h1]; exact ⟨_, hn j h2, .arrNil s, fun p hp => by simp at hp⟩
    · rw [h3]; exact ⟨by simp only [hs', h2], h1⟩
  · obtain ⟨q, h1, h2⟩ := sub j b h
    obtain ⟨q', h1', h2'⟩ := sub j' b h'
    have := g.disj q q' b h2 h2'
    subst this
    exact inj j j' q h1 h1'
  · rcases hfp j with ⟨q, t0, t, _, _, _, _, h4, _⟩ | ⟨h1, _⟩ | ⟨h1, _⟩
    · exact h4.nodup (g.nodup q)
    · rw [show fp' j = [] from h1]; simp
    · rw [show fp' j = [] from h1]; simp
  · obtain ⟨q, _, hq⟩ := sub j b h; exact g.foreign q b hq
  · obtain ⟨q, _, hq⟩ := sub j b h; exact g.mine q b hq
  · have h : mkRoots r j = .live t lk := h
    rcases spec j with ⟨h1, _⟩ | ⟨t', h1, hrt, _⟩ <;> rw [h1] at h
    · cases h
    · cases h; exact hrt
  · simp only [hs'] at hj
    split at hj
    · exact g.hdr _ _ hj
    · cases hj; rfl
    · cases hj
  · have mem : ∀ {ps : List (Nat × Option Nat)} {j : Nat} {s : Option Nat}, ps.lookup j = some s → (j, s) ∈ ps := by
      intro ps
      induction ps with
      | nil => intro j s h; simp at h
      | cons p ps ih =>
        intro j s h
        obtain ⟨k, s'⟩ := p
        rw [List.lookup_cons] at h
        split at h
        · rename_i he; cases h; have : j = k := by simpa using he
          subst this; simp
        · exact List.mem_cons_of_mem _ (ih h)
    simp only [hs'] at hj
    split at hj
    · rename_i q hq
      rcases hb _ (mem hq) with h1 | h1
      · simp only at h1; omega
      · simp only [Option.some.injEq] at h1; subst h1; exact g.pin _ _ hj0 hj
    · rename_i hq
      rcases hb _ (mem hq) with h1 | h1
      · simp only at h1; omega
      · cases h1
    · cases hj
end Go.Ab
