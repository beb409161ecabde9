/- The abstract layer, part 4: loads, stores, new variables. -/
import Derived.Test.YtbilpaghpgomeaaAb3
set_option linter.unusedSimpArgs false
set_option linter.unusedVariables false
namespace Go.Ab

theorem flatten_set_sub : ∀ (fps : List (List Nat)) (i : Nat), (fps.set i []).flatten.Sublist fps.flatten
  | [], i => by simp
  | f :: fs, 0 => by simp
  | f :: fs, i + 1 => by simpa using List.Sublist.append_left (flatten_set_sub fs i) f
theorem not_mem_flatten_set : ∀ {fps : List (List Nat)} {i b : Nat}, fps.flatten.Nodup → b ∈ fps.getD i [] → b ∉ (fps.set i []).flatten
  | [], i, b, _, h => by simp at h
  | f :: fs, 0, b, hn, h => by
    simp only [List.flatten_cons, List.nodup_append] at hn
    simp only [List.set_cons_zero, List.flatten_cons, List.nil_append]
    exact fun hb => hn.2.2 b (by simpa using h) b hb rfl
  | f :: fs, i + 1, b, hn, h => by
    simp only [List.flatten_cons, List.nodup_append] at hn
    simp only [List.set_cons_succ, List.flatten_cons, List.mem_append, not_or]
    have h' : b ∈ fs.getD i [] := by simpa using h
    exact ⟨fun hb => hn.2.2 b hb b (mem_flatten_getD h') rfl, not_mem_flatten_set hn.2.1 h'⟩
theorem nodup_getD : ∀ {fps : List (List Nat)} {i : Nat}, fps.flatten.Nodup → (fps.getD i []).Nodup
  | [], i, _ => by simp
  | f :: fs, 0, hn => by simp only [List.flatten_cons, List.nodup_append] at hn; simpa using hn.1
  | f :: fs, i + 1, hn => by simp only [List.flatten_cons, List.nodup_append] at hn; simpa using nodup_getD (fps := fs) (i := i) hn.2.1
theorem mem_flatten_set {g : List Nat} : ∀ {fps : List (List Nat)} {i b : Nat}, b ∈ (fps.set i g).flatten → b ∈ g ∨ b ∈ (fps.set i []).flatten
  | [], i, b, h => by simp at h
  | f :: fs, 0, b, h => by simp at h ⊢; exact h
  | f :: fs, i + 1, b, h => by
    simp only [List.set_cons_succ, List.flatten_cons, List.mem_append] at h ⊢
    rcases h with h | h
    · exact .inr (.inl h)
    · rcases mem_flatten_set h with h | h
      · exact .inl h
      · exact .inr (.inr h)
theorem nodup_flatten_set {g : List Nat} : ∀ {fps : List (List Nat)} {i : Nat}, fps.flatten.Nodup → g.Nodup → (∀ b ∈ g, b ∉ fps.flatten) → (fps.set i g).flatten.Nodup
  | [], i, hn, hg, hd => by simp
  | f :: fs, 0, hn, hg, hd => by
    simp only [List.flatten_cons, List.nodup_append, List.set_cons_zero] at hn hd ⊢
    exact ⟨hg, hn.2.1, fun a ha b hb e => hd a ha (by subst e; simp [hb])⟩
  | f :: fs, i + 1, hn, hg, hd => by
    simp only [List.flatten_cons, List.nodup_append, List.set_cons_succ] at hn hd ⊢
    refine ⟨hn.1, nodup_flatten_set hn.2.1 hg (fun b hb h => hd b hb (by simp [h])), fun a ha b hb e => ?_⟩
    subst e
    rcases mem_flatten_set hb with h | h
    · exact hd a h (by simp [ha])
    · exact hn.2.2 a ha a ((flatten_set_sub fs i).subset h) rfl
theorem set_getD_self {α : Type} {l : List α} {i : Nat} {x d : α} (h : i < l.length) : (l.set i x).getD i d = x := by
  simp [List.getD_eq_getElem?_getD, h]
theorem set_getD_other {α : Type} {l : List α} {i j : Nat} {x d : α} (h : i ≠ j) : (l.set i x).getD j d = l.getD j d := by
  simp [List.getD_eq_getElem?_getD, List.getElem?_set_ne h]

/-- A datum that fills one cell. -/
def T.cell : T → Bool
  | .v x => x.oneCell'
  | .sh _ _ | .arr _ _ | .box _ | .pin _ _ | .fn _ _ => true
  | _ => false
theorem Ow.oneCell {w : World} {O : Nat → Prop} {t : T} {x : Value} {fp : List Nat} (h : Ow w O t x fp) (hc : t.cell = true) : x.oneCell' = true := by
  cases h with
  | rd h => cases h <;> first | rfl | exact hc | (simp [T.cell] at hc)
  | arrNil => rfl
  | arr => rfl
  | box => rfl
  | agg => simp [T.cell] at hc
  | tup => simp [T.cell] at hc

/-- A root with another list of cells, of the same length, and other links. -/
def Root.with : Root → List T → List (Nat × Nat) → Root
  | .live (.arr s _) _, l, lk => .live (.arr s l) lk
  | .live (.box _) _, l, lk => .live (.box l) lk
  | r, _, _ => r

theorem Root.cells_spec {r : Root} {l : List T} {lk : List (Nat × Nat)} (h : r.cells = some (l, lk)) : (∃ s, r = .live (.arr s l) lk) ∨ r = .live (.box l) lk := by
  cases r with
  | free => simp [Root.cells] at h
  | dead => simp [Root.cells] at h
  | live t k => cases t <;> simp [Root.cells] at h <;> simp [h]

section
variable {P : Program} {X : Nat → Prop} {w0 : World} {O0 : Fr} {n : Nat} {S : St} {a : Act} {w : World} {hs : Nat → Option Value} {fp : Nat → List Nat}

/-- A live root with a cell: its block. -/
theorem Good.block (g : Good X w0 O0 n S a w hs fp) {r : Nat} {l : List T} {lk : List (Nat × Nat)} (h : (S.roots r).cells = some (l, lk)) {o : Nat} (ho : o < l.length) :
    ∃ (b : Nat) (x : Value) (cs : Array Value) (e : TypeId) (fps : List (List Nat)), hs r = some x ∧ ((∃ m c, x = .slice (some ⟨b, 0, none⟩) m c) ∨ x = .pointer (some ⟨b, 0, none⟩)) ∧
      w.heap[b]? = some (.cells cs e (0, 0)) ∧ l.length ≤ cs.size ∧ fps.length = l.length ∧ (∀ i (h : i < l.length), Ow w (Ob X fp) l[i] (cs.getD i undef) (fps.getD i [])) ∧ fp r = b :: fps.flatten ∧
      (∀ p ∈ lk, ∃ y, w.cell? ⟨b, p.1, none⟩ = some y ∧ hs p.2 = some y) ∧
      ∀ w' O' hs' (cs' : Array Value) (l' : List T) (fps' : List (List Nat)) lk', w'.heap[b]? = some (.cells cs' e (0, 0)) → cs'.size = cs.size → l'.length = l.length → fps'.length = l.length →
        (∀ i (h : i < l'.length), Ow w' O' l'[i] (cs'.getD i undef) (fps'.getD i [])) → (∀ p ∈ lk', ∃ y, w'.cell? ⟨b, p.1, none⟩ = some y ∧ hs' p.2 = some y) →
        RootOK w' O' hs' ((S.roots r).with l' lk') (some x) (b :: fps'.flatten) := by
  rcases Root.cells_spec h with ⟨s, hr⟩ | hr
  · rcases g.arr hr with ⟨_, rfl, _⟩ | ⟨b, len, cap, cs, e, fps, hx, hb, hl, hc, hm, hsz, hf, hr', hfp, hle, hlk⟩
    · simp at ho
    · refine ⟨b, _, cs, e, fps, hx, .inl ⟨_, _, rfl⟩, hb, hle, hf, hr', hfp, hlk, fun w' O' hs' cs' l' fps' lk' h1 h2 h3 h4 h5 h6 => ?_⟩
      rw [hr]
      exact ⟨_, rfl, .arr s l' b len cap cs' e fps' h1 (by omega) hc hm (by omega) (by omega) h5, fun p hp => by obtain ⟨y, hy, hd⟩ := h6 p hp; exact ⟨y, by simpa [cellOf] using hy, hd⟩⟩
  · obtain ⟨b, cs, e, fps, hx, hb, hl, hf, hr', hfp, hlk⟩ := g.box hr
    refine ⟨b, _, cs, e, fps, hx, .inr rfl, hb, by omega, hf, hr', hfp, hlk, fun w' O' hs' cs' l' fps' lk' h1 h2 h3 h4 h5 h6 => ?_⟩
    rw [hr]
    exact ⟨_, rfl, .box l' b cs' e fps' h1 (by omega) (by omega) h5, fun p hp => by obtain ⟨y, hy, hd⟩ := h6 p hp; exact ⟨y, by simpa [cellOf] using hy, hd⟩⟩

theorem Good.ptr_block (g : Good X w0 O0 n S a w hs fp) {r off b : Nat} {x v : Value} (hx : hs r = some x) (hb : (∃ m c, x = .slice (some ⟨b, 0, none⟩) m c) ∨ x = .pointer (some ⟨b, 0, none⟩))
    (h : Is w (Ob X fp) hs (.ptr r off) v) : v = .pointer (some ⟨b, off, none⟩) := by
  cases h with
  | ptrS hr => rw [hx] at hr; rcases hb with ⟨m, c, rfl⟩ | rfl <;> simp at hr; rw [hr.1]
  | ptrP hr => rw [hx] at hr; rcases hb with ⟨m, c, rfl⟩ | rfl <;> simp at hr; rw [hr]

/-- The content of a cell is taken out of its root and becomes a root of its own; the cell links to it. -/
theorem Good.unfold (g : Good X w0 O0 n S a w hs fp) {r o d : Nat} {l : List T} {lk : List (Nat × Nat)} {c : T} (h : (S.roots r).cells = some (l, lk)) (hc : l[o]? = some c) (hd : S.roots d = .free) (hdn : d < 1000000000) (hrt : c.rooty = true) :
    ∃ hs' fp' v, Good X w0 O0 n { S with roots := upd (upd S.roots r ((S.roots r).with (l.set o .any) ((o, d) :: lk))) d (.live c []) } a w hs' fp' ∧ hs' d = some v ∧ (∀ q x, hs q = some x → hs' q = some x) ∧
      (∃ x b, hs r = some x ∧ ((∃ m c, x = .slice (some ⟨b, 0, none⟩) m c) ∨ x = .pointer (some ⟨b, 0, none⟩)) ∧ w.cell? ⟨b, o, none⟩ = some v) ∧ (∀ b, Ob X fp' b ↔ Ob X fp b) := by
  obtain ⟨ho, rfl⟩ := List.getElem?_eq_some_iff.1 hc
  obtain ⟨b, x, cs, e, fps, hx, hxb, hb, hle, hf, hr, hfp, hlk, hmk⟩ := g.block h ho
  have hdr : d ≠ r := by rintro rfl; rw [hd] at h; simp [Root.cells] at h
  have hd' := g.root d; rw [hd] at hd'
  have hcell := cells_at hb (show o < cs.size by omega)
  have hnd : fps.flatten.Nodup := by have := g.nodup r; rw [hfp] at this; exact (List.nodup_cons.1 this).2
  have hnb : b ∉ fps.flatten := by have := g.nodup r; rw [hfp] at this; exact (List.nodup_cons.1 this).1
  let fp' := upd (upd fp r (b :: (fps.set o []).flatten)) d (fps.getD o [])
  have e1 : fp' d = fps.getD o [] := upd_self _ _ _
  have e2 : fp' r = b :: (fps.set o []).flatten := by show upd _ _ _ _ = _; rw [upd_other _ _ _ _ (Ne.symm hdr), upd_self]
  have e3 : ∀ q, q ≠ d → q ≠ r → fp' q = fp q := fun q h1 h2 => by show upd _ _ _ _ = _; rw [upd_other _ _ _ _ h1, upd_other _ _ _ _ h2]
  have hfd : fp d = [] := hd'.2
  -- whatever lies in a footprint now lay in r's, or in its own
  have sub : ∀ q b', b' ∈ fp' q → (q = d ∧ b' ∈ fps.getD o [] ∧ b' ∈ fp r) ∨ (q = r ∧ b' ∈ b :: (fps.set o []).flatten ∧ b' ∈ fp r) ∨ (q ≠ d ∧ q ≠ r ∧ b' ∈ fp q) := by
    intro q b' hq
    by_cases h1 : q = d
    · subst h1; rw [e1] at hq; exact .inl ⟨rfl, hq, by rw [hfp]; exact List.mem_cons_of_mem _ (mem_flatten_getD hq)⟩
    · by_cases h2 : q = r
      · subst h2; rw [e2] at hq
        refine .inr (.inl ⟨rfl, hq, ?_⟩)
        rw [hfp]
        rcases List.mem_cons.1 hq with rfl | hq
        · simp
        · exact List.mem_cons_of_mem _ ((flatten_set_sub fps o).subset hq)
      · rw [e3 q h1 h2] at hq; exact .inr (.inr ⟨h1, h2, hq⟩)
  have hOb : ∀ b', Ob X fp' b' ↔ Ob X fp b' := by
    intro b'
    constructor
    · rintro (h | ⟨q, hq⟩)
      · exact .inl h
      · rcases sub q b' hq with ⟨_, _, h⟩ | ⟨_, _, h⟩ | ⟨_, _, h⟩
        · exact .inr ⟨r, h⟩
        · exact .inr ⟨r, h⟩
        · exact .inr ⟨q, h⟩
    · rintro (h | ⟨q, hq⟩)
      · exact .inl h
      · right
        by_cases h2 : q = r
        · subst h2
          rw [hfp] at hq
          rcases List.mem_cons.1 hq with rfl | hq
          · exact ⟨q, by rw [e2]; simp⟩
          · obtain ⟨f, hfm, hbf⟩ := List.mem_flatten.1 hq
            obtain ⟨i, hi, rfl⟩ := List.mem_iff_getElem.1 hfm
            by_cases hio : i = o
            · subst hio; exact ⟨d, by rw [e1, List.getD_eq_getElem?_getD, List.getElem?_eq_getElem hi]; exact hbf⟩
            · refine ⟨q, ?_⟩
              rw [e2]
              refine List.mem_cons_of_mem _ (List.mem_flatten.2 ⟨fps[i], ?_, hbf⟩)
              have : (fps.set o [])[i]? = some fps[i] := by rw [List.getElem?_set_ne (Ne.symm hio)]; exact List.getElem?_eq_getElem hi
              exact List.mem_of_getElem? this
        · by_cases h1 : q = d
          · subst h1; rw [hfd] at hq; simp at hq
          · exact ⟨q, by rw [e3 q h1 h2]; exact hq⟩
  have hOf : Ob X fp' = Ob X fp := funext fun b' => propext (hOb b')
  have hhs : ∀ q y, hs q = some y → upd hs d (some (cs.getD o undef)) q = some y := by
    intro q y hq
    by_cases h1 : q = d
    · subst h1; rw [hd'.1] at hq; cases hq
    · rw [upd_other _ _ _ _ h1]; exact hq
  refine ⟨upd hs d (some (cs.getD o undef)), fp', cs.getD o undef, ⟨g.size, g.defers, fun i => ?_, fun q => ?_, ?_, ?_, ?_, g.xold, g.xout, ?_, g.hist, ?_, ?_, g.small, ?_⟩, upd_self _ _ _, hhs, ⟨x, b, hx, hxb, hcell⟩, hOb⟩
  · rw [hOf]
    exact (g.env i).mono (fun _ _ _ _ _ h => h) (fun _ h _ => h) hhs
  · rw [hOf]
    by_cases h1 : q = d
    · subst h1
      simp only [upd_self, e1]
      exact ⟨_, rfl, hr o ho, fun p hp => by simp at hp⟩
    · by_cases h2 : q = r
      · subst h2
        simp only [upd_other _ _ _ _ h1, upd_self, hx, e2]
        refine hmk w _ _ cs _ _ _ hb rfl (by simp) (by simp [hf]) (fun i hi => ?_) ?_
        · by_cases hio : o = i
          · subst hio
            rw [set_getD_self (by omega)]
            simp only [List.getElem_set_self]
            exact .rd (.any _)
          · rw [set_getD_other hio]
            simp only [List.getElem_set_ne hio]
            exact hr i (by simpa using hi)
        · intro p hp
          rcases List.mem_cons.1 hp with rfl | hp
          · exact ⟨_, hcell, upd_self _ _ _⟩
          · obtain ⟨y, hy, hyd⟩ := hlk p hp
            exact ⟨y, hy, hhs _ _ hyd⟩
      · simp only [upd_other _ _ _ _ h1, upd_other _ _ _ _ h2, e3 q h1 h2]
        have hq := g.root q
        revert hq
        cases hS : S.roots q with
        | free => exact fun h => h
        | dead => exact fun h => h
        | live t k =>
          rintro ⟨y, hy, ho', hk⟩
          exact ⟨y, hy, ho', fun p hp => by obtain ⟨z, hz, hzd⟩ := hk p hp; exact ⟨z, hz, hhs _ _ hzd⟩⟩
  · intro q q' b' hq hq'
    rcases sub q b' hq with ⟨rfl, h1, h1'⟩ | ⟨rfl, h1, h1'⟩ | ⟨h1, h1', h1''⟩ <;> rcases sub q' b' hq' with ⟨rfl, h2, h2'⟩ | ⟨rfl, h2, h2'⟩ | ⟨h2, h2', h2''⟩
    · rfl
    · rcases List.mem_cons.1 h2 with rfl | h2
      · exact (hnb (mem_flatten_getD h1)).elim
      · exact (not_mem_flatten_set hnd h1 h2).elim
    · exact (h2' (g.disj _ _ _ h2'' h1')).elim
    · rcases List.mem_cons.1 h1 with rfl | h1
      · exact (hnb (mem_flatten_getD h2)).elim
      · exact (not_mem_flatten_set hnd h2 h1).elim
    · rfl
    · exact (h2' (g.disj _ _ _ h2'' h1')).elim
    · exact (h1' (g.disj _ _ _ h1'' h2')).elim
    · exact (h1' (g.disj _ _ _ h1'' h2')).elim
    · exact g.disj _ _ _ h1'' h2''
  · intro q
    by_cases h1 : q = d
    · subst h1; rw [e1]; exact nodup_getD hnd
    · by_cases h2 : q = r
      · subst h2; rw [e2]; exact List.nodup_cons.2 ⟨fun hm => hnb ((flatten_set_sub fps o).subset hm), (flatten_set_sub fps o).nodup hnd⟩
      · rw [e3 q h1 h2]; exact g.nodup q
  · intro q b' hq
    rcases sub q b' hq with ⟨_, _, h⟩ | ⟨_, _, h⟩ | ⟨_, _, h⟩
    · exact g.foreign _ _ h
    · exact g.foreign _ _ h
    · exact g.foreign _ _ h
  · intro q b' hq
    rcases sub q b' hq with ⟨_, _, h⟩ | ⟨_, _, h⟩ | ⟨_, _, h⟩
    · exact g.mine _ _ h
    · exact g.mine _ _ h
    · exact g.mine _ _ h
  · intro q t lk' hq
    by_cases h1 : q = d
    · subst h1; simp only [upd_self, Root.live.injEq] at hq; rw [← hq.1]; exact hrt
    · by_cases h2 : q = r
      · subst h2
        simp only [upd_other _ _ _ _ h1, upd_self] at hq
        rcases Root.cells_spec h with ⟨s, hr⟩ | hr <;> rw [hr] at hq <;> simp only [Root.with, Root.live.injEq] at hq <;> rw [← hq.1] <;> rfl
      · simp only [upd_other _ _ _ _ h1, upd_other _ _ _ _ h2] at hq
        exact g.rooty q t lk' hq
  · intro q y hq
    by_cases h1 : q = d
    · subst h1
      rw [upd_self, Option.some.injEq] at hq
      rw [← hq]
      exact (hr o ho).oneCell (by revert hrt; cases l[o] <;> simp [T.rooty, T.cell])
    · rw [upd_other _ _ _ _ h1] at hq; exact g.hdr q y hq
  · intro q y hq0 hq
    by_cases h1 : q = d
    · omega
    · rw [upd_other _ _ _ _ h1] at hq; exact g.pin q y hq0 hq
end

section
variable {P : Program} {n : Nat} {S : St} {K : St → Prop}

/-- A cell of a live root, loaded into slot d: a part that is owned becomes a root of its own, d. -/
def loadC (S : St) (r off d : Nat) (l : List T) (lk : List (Nat × Nat)) (c : T) (K : St → Prop) : Prop :=
  match c with
  | .arr s l' => S.roots d = .free ∧ K { env := upd S.env d (.own d), roots := upd (upd S.roots r ((S.roots r).with (l.set off .any) ((off, d) :: lk))) d (.live (.arr s l') []) }
  | .box l' => S.roots d = .free ∧ K { env := upd S.env d (.own d), roots := upd (upd S.roots r ((S.roots r).with (l.set off .any) ((off, d) :: lk))) d (.live (.box l') []) }
  | c => c.flat = true ∧ K { S with env := upd S.env d (.t c) }

def loadW (P : Program) (t : TypeId) (x : A) (d : Nat) (S : St) (K : St → Prop) : Prop :=
  match tyAgg P t with
  | some false => (match x with
    | .t (.pin l off) => off < l.length ∧ ∀ c, l[off]? = some c → K { S with env := upd S.env d (.t c) }
    | .ptr r off => (match (S.roots r).cells with
      | some (l, lk) => off < l.length ∧ (match lk.lookup off with
        | some q => K { S with env := upd S.env d (.own q) }
        | none => ∀ c, l[off]? = some c → loadC S r off d l lk c K)
      | none => False)
    | .own r => (match (S.roots r) with
      | .live (.box l) lk => 0 < l.length ∧ (match lk.lookup 0 with
        | some q => K { S with env := upd S.env d (.own q) }
        | none => ∀ c, l[0]? = some c → loadC S r 0 d l lk c K)
      | _ => False)
    | _ => False)
  | some true => (match tySize P t with
    | some z => (match x with
      | .t (.pin l off) => off + z ≤ l.length ∧ ∀ cs, (l.drop off).take z = cs → K { S with env := upd S.env d (.t (.agg cs)) }
      | .ptr r off => (match (S.roots r).cells with
        | some (l, _) => 0 < z ∧ off + z ≤ l.length ∧ ∀ cs, (l.drop off).take z = cs → cs.all T.flat = true ∧ K { S with env := upd S.env d (.t (.agg cs)) }
        | none => False)
      | .own r => (match (S.roots r) with
        | .live (.box l) _ => 0 < z ∧ z ≤ l.length ∧ ∀ cs, l.take z = cs → cs.all T.flat = true ∧ K { S with env := upd S.env d (.t (.agg cs)) }
        | _ => False)
      | _ => False)
    | none => False)
  | none => False

theorem exec_load1 {ρ : Operand → Value} {o : Oper} {t : TypeId} {x : Operand} (ho : o.op = .load t x) (ht : tyAgg P t = some false) {b off : Nat} {v : Value} {w : World}
    (hx : ρ x = .pointer (some ⟨b, off, none⟩)) (hc : w.cell? ⟨b, off, none⟩ = some v) : (execOp ρ o).run P w = .ok (.value v) w := by
  simp [execOp, ho, hx, Instr.loadAt, Instr.sureAddr, run_loadVar1 ht hc]
theorem exec_loadN {ρ : Operand → Value} {o : Oper} {t z : TypeId} {x : Operand} (ho : o.op = .load t x) (ht : tyAgg P t = some true) (hz : tySize P t = some z) {b off : Nat} {w : World}
    {cs : Array Value} {e : TypeId} {fz : Nat × Nat} (hx : ρ x = .pointer (some ⟨b, off, none⟩)) (hb : w.heap[b]? = some (.cells cs e fz)) (hsz : off + z ≤ cs.size) :
    (execOp ρ o).run P w = .ok (.value (.agg ((List.range z).map fun i => cs.getD (off + i) undef).toArray)) w := by
  have := run_loadVarN ht hz hb hsz
  simp only [execOp, ho, hx, Instr.loadAt, Instr.sureAddr, Sem.run_bind, Sem.run_pure, Result.andThen_ok, this]

theorem lookup_mem {lk : List (Nat × Nat)} {k q : Nat} (h : lk.lookup k = some q) : (k, q) ∈ lk := by
  induction lk with
  | nil => simp at h
  | cons p t ih =>
    obtain ⟨a, b⟩ := p
    rw [List.lookup_cons] at h
    by_cases hk : k = a
    · subst hk; simp at h; subst h; simp
    · have : (k == a) = false := by simpa using hk
      rw [this] at h
      exact List.mem_cons_of_mem _ (ih h)

theorem opW_cell {o : Oper} {d : Nat} {t : TypeId} {x : Operand} (ho : o.op = .load t x) (hdst : o.dst = some d) (hd : d < n) (ht : tyAgg P t = some false) {r off : Nat} {l : List T} {lk : List (Nat × Nat)}
    (hr : (S.roots r).cells = some (l, lk)) (hx : ∀ X w0 O0 a w hs fp, Good X w0 O0 n S a w hs fp → Is w (Ob X fp) hs (.ptr r off) (a.eval x)) (hlt : off < l.length)
    (k : match lk.lookup off with | some q => K { S with env := upd S.env d (.own q) } | none => ∀ c, l[off]? = some c → loadC S r off d l lk c K) : OpW P n o S K := by
  split at k
  · rename_i q hq
    refine OpW.val (x := .own q) hdst hd (fun X w0 O0 a w hs fp g => ?_) k
    obtain ⟨b, y, cs, e, fps, hy, hyb, hb, hle, hf, hro, hfp, hlk, _⟩ := g.block hr hlt
    have hv := g.ptr_block hy hyb (hx X w0 O0 a w hs fp g)
    obtain ⟨z, hz, hzd⟩ := hlk _ (lookup_mem hq)
    exact ⟨z, exec_load1 ho ht hv hz, .own hzd⟩
  · have k' := k _ (List.getElem?_eq_getElem hlt)
    have own : ∀ c, l[off] = c → c.rooty = true → S.roots d = .free → K { env := upd S.env d (.own d), roots := upd (upd S.roots r ((S.roots r).with (l.set off .any) ((off, d) :: lk))) d (.live c []) } → OpW P n o S K := by
      intro c hc hrt hfree hK X w0 O0 a w hs fp g Q
      obtain ⟨b, y, cs, e, fps, hy, hyb, hb, hle, hf, hro, hfp, hlk, _⟩ := g.block hr hlt
      have hv := g.ptr_block hy hyb (hx X w0 O0 a w hs fp g)
      obtain ⟨hs', fp', v, g', hd', hh, ⟨y', b', hy', hyb', hc'⟩, hO⟩ := g.unfold (c := c) (o := off) hr (by rw [← hc]; exact List.getElem?_eq_getElem hlt) hfree (by have := g.small; omega) hrt
      have hbb : b' = b := by
        rw [hy] at hy'; cases hy'
        rcases hyb with ⟨m, c, rfl⟩ | rfl <;> rcases hyb' with ⟨m', c', h⟩ | h <;> cases h <;> rfl
      subst hbb
      unfold Oper.wp
      rw [exec_load1 ho ht hv hc', Oper.upon_value, hdst]
      exact ⟨_, hs', fp', g'.put hd (.own hd'), hK⟩
    have flat : ∀ c, l[off] = c → c.flat = true → K { S with env := upd S.env d (.t c) } → OpW P n o S K := by
      intro c hc hfl hK
      refine OpW.val (x := .t c) hdst hd (fun X w0 O0 a w hs fp g => ?_) hK
      obtain ⟨b, y, cs, e, fps, hy, hyb, hb, hle, hf, hro, hfp, hlk, _⟩ := g.block hr hlt
      have hv := g.ptr_block hy hyb (hx X w0 O0 a w hs fp g)
      have hrd := (hro off hlt).flat_rd (by rw [hc]; exact hfl)
      rw [hc] at hrd
      exact ⟨_, exec_load1 ho ht hv (cells_at hb (by omega)), .t hrd.1⟩
    generalize hc : l[off] = c at k'
    cases c with
    | arr s l' => exact own _ hc rfl k'.1 k'.2
    | box l' => exact own _ hc rfl k'.1 k'.2
    | any => exact flat _ hc k'.1 k'.2
    | v x => exact flat _ hc k'.1 k'.2
    | sh s l' => exact flat _ hc k'.1 k'.2
    | pin l' o' => exact flat _ hc k'.1 k'.2
    | fn f cp => exact flat _ hc k'.1 k'.2
    | agg l' => exact flat _ hc k'.1 k'.2
    | tup l' => exact flat _ hc k'.1 k'.2

theorem opW_cells {o : Oper} {d z : Nat} {t : TypeId} {x : Operand} (ho : o.op = .load t x) (hdst : o.dst = some d) (hd : d < n) (ht : tyAgg P t = some true) (hz : tySize P t = some z) {r off : Nat} {l : List T} {lk : List (Nat × Nat)}
    (hr : (S.roots r).cells = some (l, lk)) (hx : ∀ X w0 O0 a w hs fp, Good X w0 O0 n S a w hs fp → Is w (Ob X fp) hs (.ptr r off) (a.eval x)) (hz0 : 0 < z) (hlt : off + z ≤ l.length)
    (k : ((l.drop off).take z).all T.flat = true ∧ K { S with env := upd S.env d (.t (.agg ((l.drop off).take z))) }) : OpW P n o S K := by
  obtain ⟨hfl, hK⟩ := k
  · refine OpW.val (x := .t (.agg ((l.drop off).take z))) hdst hd (fun X w0 O0 a w hs fp g => ?_) hK
    obtain ⟨b, y, cs, e, fps, hy, hyb, hb, hle, hf, hro, hfp, hlk, _⟩ := g.block hr (show off < l.length by omega)
    have hv := g.ptr_block hy hyb (hx X w0 O0 a w hs fp g)
    refine ⟨_, exec_loadN ho ht hz hv hb (by omega), .t (.agg _ _ (by simp; omega) fun i hi => ?_)⟩
    have hi' : i < z := by simp at hi; omega
    have e1 : ((l.drop off).take z)[i] = l[off + i]'(by omega) := by simp
    have hmem : ((l.drop off).take z)[i] ∈ (l.drop off).take z := List.getElem_mem _
    have hfi := List.all_eq_true.1 hfl _ hmem
    rw [e1] at hfi
    have := (hro (off + i) (by omega)).flat_rd hfi
    rw [e1]
    simpa [List.getD_eq_getElem?_getD, hi'] using this.1

theorem opW_load {o : Oper} {d : Nat} {t : TypeId} {x : Operand} (ho : o.op = .load t x) (hdst : o.dst = some d) (hd : d < n)
    (k : loadW P t (S.ev x) d S K) : OpW P n o S K := by
  unfold loadW at k
  split at k
  · rename_i ht
    split at k
    · rename_i l off hx
      obtain ⟨hlt, k⟩ := k
      refine OpW.val (x := .t l[off]) hdst hd (fun X w0 O0 a w hs fp g => ?_) (k _ (List.getElem?_eq_getElem hlt))
      have h1 := g.ev x; rw [hx] at h1
      generalize hv : a.eval x = v at h1
      cases h1 with
      | t h1 =>
        cases h1 with
        | pin _ _ b oo cs e fz hO hb hsz hr => exact ⟨_, exec_load1 ho ht hv (cells_at hb (by omega)), .t (hr off hlt)⟩
    · rename_i r off hx
      split at k
      · rename_i l lk hr
        exact opW_cell ho hdst hd ht hr (fun X w0 O0 a w hs fp g => hx ▸ g.ev x) k.1 k.2
      · exact k.elim
    · rename_i r hx
      split at k
      · rename_i l lk hr
        refine opW_cell (r := r) (off := 0) (l := l) (lk := lk) ho hdst hd ht (by rw [hr]; rfl) (fun X w0 O0 a w hs fp g => ?_) k.1 k.2
        have h1 := g.ev x; rw [hx] at h1; have h1 := h1.own_inv
        obtain ⟨b, cs, e, fps, hb, _⟩ := g.box hr
        rw [hb, Option.some.injEq] at h1
        rw [← h1]; exact .ptrP hb
      · exact k.elim
    · exact k.elim
  · rename_i ht
    split at k
    · rename_i z hz
      split at k
      · rename_i l off hx
        obtain ⟨hlt, k⟩ := k
        refine OpW.val (x := .t (.agg ((l.drop off).take z))) hdst hd (fun X w0 O0 a w hs fp g => ?_) (k _ rfl)
        have h1 := g.ev x; rw [hx] at h1
        generalize hv : a.eval x = v at h1
        cases h1 with
        | t h1 =>
          cases h1 with
          | pin _ _ b oo cs e fz hO hb hsz hr =>
            refine ⟨_, exec_loadN ho ht hz hv hb (by omega), .t (.agg _ _ (by simp; omega) fun i hi => ?_)⟩
            have hi' : i < z := by simp at hi; omega
            have := hr (off + i) (by omega)
            simpa [List.getD_eq_getElem?_getD, hi', Nat.add_assoc] using this
      · rename_i r off hx
        split at k
        · rename_i l lk hr
          exact opW_cells ho hdst hd ht hz hr (fun X w0 O0 a w hs fp g => hx ▸ g.ev x) k.1 k.2.1 (k.2.2 _ rfl)
        · exact k.elim
      · rename_i r hx
        split at k
        · rename_i l lk hr
          refine opW_cells (r := r) (off := 0) (l := l) (lk := lk) ho hdst hd ht hz (by rw [hr]; rfl) (fun X w0 O0 a w hs fp g => ?_) k.1 (by simpa using k.2.1) (by simpa using k.2.2 _ rfl)
          have h1 := g.ev x; rw [hx] at h1; have h1 := h1.own_inv
          obtain ⟨b, cs, e, fps, hb, _⟩ := g.box hr
          rw [hb, Option.some.injEq] at h1
          rw [← h1]; exact .ptrP hb
        · exact k.elim
      · exact k.elim
    · exact k.elim
  · exact k.elim
end
end Go.Ab
