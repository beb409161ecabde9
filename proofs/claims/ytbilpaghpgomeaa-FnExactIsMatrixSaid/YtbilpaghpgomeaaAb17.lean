/- The abstract layer, part 17: the state behind a call. -/
import Derived.Test.YtbilpaghpgomeaaAb16
set_option linter.unusedSimpArgs false
set_option linter.unusedVariables false
namespace Go.Ab

mutual
/-- Nothing in it that is only read. -/
def T.noSh : T → Prop
  | .sh _ _ => False
  | .pin _ _ => False
  | .arr _ l => T.noShL l
  | .box l => T.noShL l
  | .fn _ l => T.noShL l
  | .agg l => T.noShL l
  | .tup l => T.noShL l
  | _ => True
def T.noShL : List T → Prop
  | [] => True
  | t :: l => T.noSh t ∧ T.noShL l
end
theorem T.noShL_iff : ∀ l : List T, T.noShL l ↔ ∀ t ∈ l, t.noSh
  | [] => by simp [T.noShL]
  | t :: l => by simp [T.noShL, T.noShL_iff l]

theorem Rd.noSh {w : World} {O O' : Nat → Prop} {t : T} {x : Value} (h : Rd w O t x) (hn : t.noSh) : Rd w O' t x := by
  induction h with
  | any x => exact .any x
  | v x => exact .v x
  | shNil s => exact hn.elim
  | shZ s ad cap => exact hn.elim
  | sh => exact hn.elim
  | pin => exact hn.elim
  | fn f cap vs hl hr ih => exact .fn f cap vs hl fun i h => ih i h ((T.noShL_iff cap).1 hn _ (List.getElem_mem _))
  | agg l vs hl hr ih => exact .agg l vs hl fun i h => ih i h ((T.noShL_iff l).1 hn _ (List.getElem_mem _))
  | tup l vs hl hr ih => exact .tup l vs hl fun i h => ih i h ((T.noShL_iff l).1 hn _ (List.getElem_mem _))
theorem Ow.noSh {w : World} {O O' : Nat → Prop} {t : T} {x : Value} {fp : List Nat} (h : Ow w O t x fp) (hn : t.noSh) : Ow w O' t x fp := by
  induction h with
  | rd h => exact .rd (h.noSh hn)
  | arrNil s => exact .arrNil s
  | arr s l b len cap cs e fps hb hl hc hm hsz hfl hr ih => exact .arr s l b len cap cs e fps hb hl hc hm hsz hfl fun i h => ih i h ((T.noShL_iff l).1 hn _ (List.getElem_mem _))
  | box l b cs e fps hb hl hfl hr ih => exact .box l b cs e fps hb hl hfl fun i h => ih i h ((T.noShL_iff l).1 hn _ (List.getElem_mem _))
  | agg l vs fps hl hfl hr ih => exact .agg l vs fps hl hfl fun i h => ih i h ((T.noShL_iff l).1 hn _ (List.getElem_mem _))
  | tup l vs fps hl hfl hr ih => exact .tup l vs fps hl hfl fun i h => ih i h ((T.noShL_iff l).1 hn _ (List.getElem_mem _))

theorem rid_inj {d j k : Nat} (h : rid d j = rid d k) : j = k := by
  unfold rid at h; split at h <;> split at h <;> omega

/-- The pieces of a result in memory: for each root that is laid its value and footprint. -/
structure Pieces (w : World) (O : Nat → Prop) (d k k' : Nat) (rs : List (Nat × T)) (xs : List Value) (fs : List (List Nat)) (f : List Nat) : Prop where
  xl : xs.length = rs.length
  fl : fs.length = rs.length
  ow : ∀ i (h : i < rs.length), Ow w O rs[i].2 (xs.getD i undef) (fs.getD i []) ∧ rs[i].2.rooty = true
  sub : fs.flatten.Sublist f
  le : k' = k + rs.length
  ids : ∀ i (h : i < rs.length), rs[i].1 = rid d (k + i)

section
variable {w : World} {O : Nat → Prop}

theorem Pieces.append {d k k1 k2 : Nat} {rs1 rs2 : List (Nat × T)} {xs1 xs2 : List Value} {fs1 fs2 : List (List Nat)} {f1 f2 : List Nat} (h1 : Pieces w O d k k1 rs1 xs1 fs1 f1) (h2 : Pieces w O d k1 k2 rs2 xs2 fs2 f2) :
    Pieces w O d k k2 (rs1 ++ rs2) (xs1 ++ xs2) (fs1 ++ fs2) (f1 ++ f2) := by
  refine ⟨by simp [h1.xl, h2.xl], by simp [h1.fl, h2.fl], fun i h => ?_, ?_, by rw [h2.le, h1.le]; simp; omega, fun i h => ?_⟩
  · by_cases hi : i < rs1.length
    · rw [List.getElem_append_left hi, List.getD_eq_getElem?_getD, List.getElem?_append_left (by rw [h1.xl]; exact hi), List.getD_eq_getElem?_getD, List.getElem?_append_left (by rw [h1.fl]; exact hi)]
      have := h1.ow i hi
      rwa [List.getD_eq_getElem?_getD, List.getD_eq_getElem?_getD] at this
    · have hlt : i - rs1.length < rs2.length := by simp at h; omega
      rw [List.getElem_append_right (by omega), List.getD_eq_getElem?_getD, List.getElem?_append_right (by rw [h1.xl]; omega), List.getD_eq_getElem?_getD, List.getElem?_append_right (by rw [h1.fl]; omega), h1.xl, h1.fl]
      have := h2.ow (i - rs1.length) hlt
      rwa [List.getD_eq_getElem?_getD, List.getD_eq_getElem?_getD] at this
  · rw [List.flatten_append]; exact List.Sublist.append h1.sub h2.sub
  · by_cases hi : i < rs1.length
    · rw [List.getElem_append_left hi]; exact h1.ids i hi
    · have hlt : i - rs1.length < rs2.length := by simp at h; omega
      rw [List.getElem_append_right (by omega), h2.ids _ hlt, h1.le]
      congr 1; omega

theorem Pieces.single {d k : Nat} {t : T} {x : Value} {f : List Nat} (h : Ow w O t x f) (hrt : t.rooty = true) : Pieces w O d k (k + 1) [(rid d k, t)] [x] [f] f := by
  refine ⟨rfl, rfl, fun i hi => ?_, by simp, rfl, fun i hi => ?_⟩
  · have : i = 0 := by simpa using hi
    subst this; exact ⟨h, hrt⟩
  · have : i = 0 := by simpa using hi
    subst this; rfl

theorem list_split {l : List (List Nat)} {f : List Nat} {fps : List (List Nat)} : (f :: fps).flatten = f ++ fps.flatten := rfl

mutual
theorem absT_spec (d : Nat) : ∀ (t : T) (k : Nat) {x : Value} {f : List Nat}, Ow w O t x f → ∃ (xs : List Value) (fs : List (List Nat)), Pieces w O d k (absT d k t).2.2 (absT d k t).2.1 xs fs f ∧
    ∀ hs' : Nat → Option Value, (∀ i (h : i < (absT d k t).2.1.length), hs' (absT d k t).2.1[i].1 = some (xs.getD i undef)) → Is w O hs' (absT d k t).1 x
  | .arr s l, k, x, f, h => ⟨[x], [f], Pieces.single h rfl, fun hs' hh => .own (hh 0 (by simp [absT]))⟩
  | .box l, k, x, f, h => ⟨[x], [f], Pieces.single h rfl, fun hs' hh => .own (hh 0 (by simp [absT]))⟩
  | .any, k, x, f, h => ⟨[], [], ⟨rfl, rfl, fun i hi => absurd hi (by simp [absT]), List.nil_sublist _, rfl, fun i hi => absurd hi (by simp [absT])⟩, fun hs' hh => .t (.any _)⟩
  | .v y, k, x, f, h => ⟨[], [], ⟨rfl, rfl, fun i hi => absurd hi (by simp [absT]), List.nil_sublist _, rfl, fun i hi => absurd hi (by simp [absT])⟩, fun hs' hh => .t (h.flat_rd rfl).1⟩
  | .sh s l, k, x, f, h => ⟨[], [], ⟨rfl, rfl, fun i hi => absurd hi (by simp [absT]), List.nil_sublist _, rfl, fun i hi => absurd hi (by simp [absT])⟩, fun hs' hh => .t (h.flat_rd rfl).1⟩
  | .pin l o, k, x, f, h => ⟨[], [], ⟨rfl, rfl, fun i hi => absurd hi (by simp [absT]), List.nil_sublist _, rfl, fun i hi => absurd hi (by simp [absT])⟩, fun hs' hh => .t (h.flat_rd rfl).1⟩
  | .fn g l, k, x, f, h => ⟨[], [], ⟨rfl, rfl, fun i hi => absurd hi (by simp [absT]), List.nil_sublist _, rfl, fun i hi => absurd hi (by simp [absT])⟩, fun hs' hh => .t (h.flat_rd rfl).1⟩
  | .agg l, k, x, f, h => by
    have key : ∀ (vs : List Value) (fps : List (List Nat)), vs.length = l.length → fps.length = l.length → (∀ i (h : i < l.length), Ow w O l[i] (vs.getD i undef) (fps.getD i [])) → fps.flatten.Sublist f → x = .agg vs.toArray →
        ∃ (xs : List Value) (fs : List (List Nat)), Pieces w O d k (absT d k (.agg l)).2.2 (absT d k (.agg l)).2.1 xs fs f ∧
          ∀ hs' : Nat → Option Value, (∀ i (h : i < (absT d k (.agg l)).2.1.length), hs' (absT d k (.agg l)).2.1[i].1 = some (xs.getD i undef)) → Is w O hs' (absT d k (.agg l)).1 x := by
      intro vs fps hl hf hr hsub hx
      obtain ⟨xs, fs, hp, hi⟩ := absL_spec d l k hl hf hr
      refine ⟨xs, fs, ⟨hp.xl, hp.fl, hp.ow, hp.sub.trans hsub, hp.le, hp.ids⟩, fun hs' hh => ?_⟩
      obtain ⟨h1, h2⟩ := hi hs' hh
      rw [hx]; exact .agg (by omega) h2
    cases h with
    | rd h => cases h with | agg _ vs hl hr => exact key vs (List.replicate l.length []) hl (by simp) (ow_of_rd_list hr) (by simp) rfl
    | agg _ vs fps hl hf hr => exact key vs fps hl hf hr (List.Sublist.refl _) rfl
  | .tup l, k, x, f, h => by
    have key : ∀ (vs : List Value) (fps : List (List Nat)), vs.length = l.length → fps.length = l.length → (∀ i (h : i < l.length), Ow w O l[i] (vs.getD i undef) (fps.getD i [])) → fps.flatten.Sublist f → x = .tuple vs.toArray →
        ∃ (xs : List Value) (fs : List (List Nat)), Pieces w O d k (absT d k (.tup l)).2.2 (absT d k (.tup l)).2.1 xs fs f ∧
          ∀ hs' : Nat → Option Value, (∀ i (h : i < (absT d k (.tup l)).2.1.length), hs' (absT d k (.tup l)).2.1[i].1 = some (xs.getD i undef)) → Is w O hs' (absT d k (.tup l)).1 x := by
      intro vs fps hl hf hr hsub hx
      obtain ⟨xs, fs, hp, hi⟩ := absL_spec d l k hl hf hr
      refine ⟨xs, fs, ⟨hp.xl, hp.fl, hp.ow, hp.sub.trans hsub, hp.le, hp.ids⟩, fun hs' hh => ?_⟩
      obtain ⟨h1, h2⟩ := hi hs' hh
      rw [hx]; exact .tup (by omega) h2
    cases h with
    | rd h => cases h with | tup _ vs hl hr => exact key vs (List.replicate l.length []) hl (by simp) (ow_of_rd_list hr) (by simp) rfl
    | tup _ vs fps hl hf hr => exact key vs fps hl hf hr (List.Sublist.refl _) rfl
theorem absL_spec (d : Nat) : ∀ (l : List T) (k : Nat) {vs : List Value} {fps : List (List Nat)}, vs.length = l.length → fps.length = l.length → (∀ i (h : i < l.length), Ow w O l[i] (vs.getD i undef) (fps.getD i [])) →
    ∃ (xs : List Value) (fs : List (List Nat)), Pieces w O d k (absL d k l).2.2 (absL d k l).2.1 xs fs fps.flatten ∧
      ∀ hs' : Nat → Option Value, (∀ i (h : i < (absL d k l).2.1.length), hs' (absL d k l).2.1[i].1 = some (xs.getD i undef)) → (absL d k l).1.length = l.length ∧ ∀ i (h : i < (absL d k l).1.length), Is w O hs' (absL d k l).1[i] (vs.getD i undef)
  | [], k, vs, fps, hv, hf, hr => ⟨[], [], ⟨rfl, rfl, fun i hi => absurd hi (by simp [absL]), List.nil_sublist _, rfl, fun i hi => absurd hi (by simp [absL])⟩, fun hs' hh => ⟨rfl, fun i h => absurd h (by simp [absL])⟩⟩
  | t :: l, k, [], fps, hv, hf, hr => by simp at hv
  | t :: l, k, v :: vs, [], hv, hf, hr => by simp at hf
  | t :: l, k, v :: vs, f :: fps, hv, hf, hr => by
    obtain ⟨xs1, fs1, hp1, hi1⟩ := absT_spec d t k (by have := hr 0 (by simp); simpa only [List.getElem_cons_zero, List.getD_cons_zero] using this)
    obtain ⟨xs2, fs2, hp2, hi2⟩ := absL_spec d l (absT d k t).2.2 (vs := vs) (fps := fps) (by simpa using hv) (by simpa using hf)
      (fun i h => by have := hr (i + 1) (by simpa using h); simpa only [List.getElem_cons_succ, List.getD_cons_succ] using this)
    refine ⟨xs1 ++ xs2, fs1 ++ fs2, by simpa only [absL, List.flatten_cons] using hp1.append hp2, fun hs' hh => ?_⟩
    simp only [absL] at hh ⊢
    have g1 := hi1 hs' fun i h => by
      have := hh i (by simp; omega)
      rw [List.getElem_append_left h, List.getD_eq_getElem?_getD, List.getElem?_append_left (by rw [hp1.xl]; exact h)] at this
      rw [this, List.getD_eq_getElem?_getD]
    obtain ⟨g2, g3⟩ := hi2 hs' fun i h => by
      have := hh ((absT d k t).2.1.length + i) (by simp; omega)
      rw [List.getElem_append_right (by omega), List.getD_eq_getElem?_getD, List.getElem?_append_right (by rw [hp1.xl]; omega), hp1.xl] at this
      simp only [Nat.add_sub_cancel_left] at this
      rw [this, List.getD_eq_getElem?_getD]
    refine ⟨by simp [g2], fun i h => ?_⟩
    cases i with
    | zero => simpa only [List.getElem_cons_zero, List.getD_cons_zero] using g1
    | succ i => have := g3 i (by simpa using h); simpa only [List.getElem_cons_succ, List.getD_cons_succ] using this
end

theorem updL_mem {f : Nat → Root} : ∀ {rs : List (Nat × T)} {r : Nat}, (∃ i, ∃ h : i < rs.length, rs[i].1 = r ∧ updL f rs r = .live rs[i].2 []) ∨ ((∀ i (h : i < rs.length), rs[i].1 ≠ r) ∧ updL f rs r = f r)
  | [], r => .inr ⟨fun i h => absurd h (by simp), rfl⟩
  | (j, t) :: rs, r => by
    by_cases h : r = j
    · subst h; exact .inl ⟨0, by simp, rfl, by simp [updL, upd_self]⟩
    · rcases updL_mem (f := f) (rs := rs) (r := r) with ⟨i, hi, h1, h2⟩ | ⟨h1, h2⟩
      · exact .inl ⟨i + 1, by simpa using hi, by simpa using h1, by simp only [updL, upd_other _ _ _ _ h, List.getElem_cons_succ]; exact h2⟩
      · refine .inr ⟨fun i hi => ?_, by simp only [updL, upd_other _ _ _ _ h]; exact h2⟩
        cases i with
        | zero => simpa using Ne.symm h
        | succ i => simpa using h1 i (by simpa using hi)
theorem updS_mem {f : Nat → Root} : ∀ {srcs : List Nat} {ts : List T} {r : Nat}, srcs.length = ts.length → (∃ i, ∃ h : i < srcs.length, ∃ h' : i < ts.length, srcs[i] = r ∧ updS f srcs ts r = .live ts[i] []) ∨ ((∀ i (h : i < srcs.length), srcs[i] ≠ r) ∧ updS f srcs ts r = f r)
  | [], [], r, _ => .inr ⟨fun i h => absurd h (by simp), rfl⟩
  | [], _ :: _, r, h => by simp at h
  | _ :: _, [], r, h => by simp at h
  | q :: srcs, t :: ts, r, hl => by
    by_cases h : r = q
    · subst h; exact .inl ⟨0, by simp, by simp, rfl, by simp [updS, upd_self]⟩
    · rcases updS_mem (f := f) (srcs := srcs) (ts := ts) (r := r) (by simpa using hl) with ⟨i, hi, hi', h1, h2⟩ | ⟨h1, h2⟩
      · exact .inl ⟨i + 1, by simpa using hi, by simpa using hi', by simpa using h1, by simp only [updS, upd_other _ _ _ _ h, List.getElem_cons_succ]; exact h2⟩
      · refine .inr ⟨fun i hi => ?_, by simp only [updS, upd_other _ _ _ _ h]; exact h2⟩
        cases i with
        | zero => simpa using Ne.symm h
        | succ i => simpa using h1 i (by simpa using hi)
theorem freeAll_mem {S : St} : ∀ {rs : List (Nat × T)}, freeAll S rs → ∀ i (h : i < rs.length), S.roots rs[i].1 = .free
  | [], _, i, h => absurd h (by simp)
  | (j, t) :: rs, hf, 0, h => hf.1
  | (j, t) :: rs, hf, i + 1, h => freeAll_mem (rs := rs) hf.2 i (by simpa using h)
end
end Go.Ab
