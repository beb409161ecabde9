/- The abstract layer, part 18: the rule for a call. -/
import Derived.Test.YtbilpaghpgomeaaAb17
set_option linter.unusedSimpArgs false
set_option linter.unusedVariables false
namespace Go.Ab

section
variable {P : Program} {X : Nat → Prop} {w0 : World} {O0 : Fr} {n : Nat} {S : St} {a : Act} {w : World} {hs : Nat → Option Value} {fp : Nat → List Nat}

/-- A root that nobody has touched. -/
theorem Good.keepRoot (g : Good X w0 O0 n S a w hs fp) (r : Nat) {w' : World} {O' : Nat → Prop} {hs' : Nat → Option Value} (hk : Keeps (fun b => ¬ Ob X fp b) w w') (hO : ∀ b, ¬ Ob X fp b → b < w.heap.size → ¬ O' b)
    (hh : ∀ r y, hs r = some y → hs' r = some y) (hr' : hs' r = hs r) (hkf : ∀ b ∈ fp r, w'.heap[b]? = w.heap[b]?) : RootOK w' O' hs' (S.roots r) (hs' r) (fp r) := by
  have hr := g.root r
  have hrr := g.rooty r
  revert hr
  cases hS : S.roots r with
  | free => rintro ⟨h1, h2⟩; exact ⟨hr'.trans h1, h2⟩
  | dead => exact fun h => h
  | live t' lk' =>
    rintro ⟨y, hy, ho', hlk'⟩
    refine ⟨y, hr'.trans hy, ho'.mono hk hO fun b cs e fz hb hc => by rw [hkf b hb]; exact hc, fun p hp => ?_⟩
    obtain ⟨z, hz, hzd⟩ := hlk' p hp
    refine ⟨z, ?_, hh _ _ hzd⟩
    have hroot := hrr _ _ hS
    generalize hfr : fp r = fr at ho' hkf
    cases ho' with
    | rd hh => cases hh <;> simp [T.rooty] at hroot
    | arrNil => simp [cellOf] at hz
    | arr _ _ b len cap cs e fps hb _ _ _ _ _ _ =>
      simp only [cellOf, World.cell?] at hz ⊢
      rw [hkf b (by simp)]; exact hz
    | box _ b cs e fps hb _ _ _ =>
      simp only [cellOf, World.cell?] at hz ⊢
      rw [hkf b (by simp)]; exact hz
    | agg => simp [T.rooty] at hroot
    | tup => simp [T.rooty] at hroot

/-- The caller's roots srcs hold what the contract asks. -/
def srcsOK (S : St) : List Nat → List T → Prop
  | [], [] => True
  | q :: qs, t :: ts => S.roots q = .live t [] ∧ srcsOK S qs ts
  | _, _ => False

theorem srcsOK_get : ∀ {qs : List Nat} {ts : List T}, srcsOK S qs ts → qs.length = ts.length ∧ ∀ i (h : i < qs.length) (h' : i < ts.length), S.roots qs[i] = .live ts[i] []
  | [], [], _ => ⟨rfl, fun i h => absurd h (by simp)⟩
  | [], _ :: _, h => by simp [srcsOK] at h
  | _ :: _, [], h => by simp [srcsOK] at h
  | q :: qs, t :: ts, h => by
    obtain ⟨h1, h2⟩ := srcsOK_get h.2
    refine ⟨by simp [h1], fun i hi hi' => ?_⟩
    cases i with
    | zero => exact h.1
    | succ i => exact h2 i (by simpa using hi) (by simpa using hi')

theorem lookup_zip {α : Type} : ∀ {ks : List Nat} {vs : List α}, ks.length = vs.length → ks.Nodup → ∀ i (h : i < ks.length) (h' : i < vs.length), (ks.zip vs).lookup ks[i] = some vs[i]
  | [], _, _, _, i, h, _ => absurd h (by simp)
  | _ :: _, [], h, _, _, _, _ => by simp at h
  | k :: ks, v :: vs, hl, hn, i, h, h' => by
    cases i with
    | zero => simp
    | succ i =>
      have hne : (ks[i]'(by simpa using h) == k) = false := by
        have := (List.nodup_cons.1 hn).1
        simp only [beq_eq_false_iff_ne]
        rintro e; exact this (e ▸ List.getElem_mem _)
      simp only [List.getElem_cons_succ, List.zip_cons_cons, List.lookup_cons, hne]
      exact lookup_zip (by simpa using hl) (List.nodup_cons.1 hn).2 i _ _
theorem lookup_zip_none {α : Type} : ∀ {ks : List Nat} {vs : List α} {r : Nat}, r ∉ ks → (ks.zip vs).lookup r = none
  | [], _, _, _ => by simp
  | _ :: _, [], _, _ => by simp
  | k :: ks, v :: vs, r, h => by
    have h1 : (r == k) = false := by simpa using fun e => h (by simp [e])
    simp only [List.zip_cons_cons, List.lookup_cons, h1]
    exact lookup_zip_none fun hm => h (List.mem_cons_of_mem _ hm)

/-- The roots behind a call: new contents of those that were handed over, new roots out of the result's pieces. -/
theorem Good.after0 (g : Good X w0 O0 n S a w hs fp) {srcs bor : List Nat} (hsn : srcs.Nodup) {rin rout : List T} (hsrc : srcsOK S srcs rin) (hrl : rout.length = rin.length) {v : Value} {res : T} {fr : List Nat} {fp' : Nat → List Nat} {w' : World} {Xc : Nat → Prop} {hsc : Nat → Option Value} {fpc : Nat → List Nat}
    (hXc : ∀ b, Xc b ↔ X b ∨ ∃ q, q ∉ srcs ∧ q ∉ bor ∧ b ∈ fp q) (hhc : ∀ i q, srcs[i]? = some q → hsc (1000000000 + i) = hs q) (hfc : ∀ j b, b ∈ fpc j → ∃ q, q ∈ srcs ∧ b ∈ fp q)
    (out : Out Xc w hsc fpc v res rout fr fp' w') {ON : Nat → Prop} (hON : ∀ b, ON b ↔ X b ∨ (∃ q, q ∉ srcs ∧ b ∈ fp q) ∨ (∃ j, b ∈ fp' j) ∨ b ∈ fr)
    (hroot : ∀ i t, rout[i]? = some t → ∃ x, hsc (1000000000 + i) = some x ∧ Ow w' ON t x (fp' (1000000000 + i)) ∧ t.rooty = true)
    {dd : Nat} {rs : List (Nat × T)} {xs : List Value} {fs : List (List Nat)} (hp : Pieces w' ON dd 0 rs.length rs xs fs fr) (hfree : freeAll S rs) (hsmall : ∀ i (h : i < rs.length), rs[i].1 < 1000000000) :
    ∃ hs' fp'', Good X w0 O0 n { env := S.env, roots := updL (updS S.roots srcs rout) rs } a w' hs' fp'' ∧ (∀ i (h : i < rs.length), hs' rs[i].1 = some (xs.getD i Go.undef)) ∧ (∀ b, ¬ ON b → ¬ Ob X fp'' b) := by
  obtain ⟨hsl, hsg⟩ := srcsOK_get hsrc
  have hsrl : srcs.length = rout.length := by omega
  have hframe : ∀ b, b < w.heap.size → (∀ q ∈ srcs, b ∉ fp q) → w'.heap[b]? = w.heap[b]? := fun b hb h => out.frame b hb fun j hj => by
    obtain ⟨q, hq, hbq⟩ := hfc j b hj; exact h q hq hbq
  have hk : Keeps (fun b => ¬ Ob X fp b) w w' := fun b cs e fz hn hb => by
    rw [hframe b (Array.getElem?_eq_some_iff.1 hb).1 fun q _ hq => hn (.inr ⟨q, hq⟩)]; exact hb
  have hkf : ∀ r, r ∉ srcs → ∀ b ∈ fp r, w'.heap[b]? = w.heap[b]? := fun r hr b hb => hframe b (g.lt hb) fun q hq hbq => hr (by have := g.disj r q b hb hbq; rw [this]; exact hq)
  have hold : ∀ j b, b ∈ fp' j → (∃ q, q ∈ srcs ∧ b ∈ fp q) ∨ w.heap.size ≤ b := fun j b hb => (out.old j b hb).imp (fun ⟨j, hj⟩ => hfc j b hj) id
  have hrold : ∀ b, b ∈ fr → (∃ q, q ∈ srcs ∧ b ∈ fp q) ∨ w.heap.size ≤ b := fun b hb => (out.rold b hb).imp (fun ⟨j, hj⟩ => hfc j b hj) id
  have hids : (rs.map (·.1)).Nodup := by
    refine List.pairwise_iff_getElem.2 fun i j hi hj hij => ?_
    rw [List.getElem_map, List.getElem_map, hp.ids i (by simpa using hi), hp.ids j (by simpa using hj)]
    intro e; have := rid_inj e; omega
  have hidm : ∀ i (h : i < rs.length), rs[i].1 ∈ rs.map (·.1) := fun i h => List.mem_map.2 ⟨rs[i], List.getElem_mem _, rfl⟩
  have hidfree : ∀ r ∈ rs.map (·.1), S.roots r = .free := fun r hr => by
    obtain ⟨p, hpm, rfl⟩ := List.mem_map.1 hr
    obtain ⟨i, hi, rfl⟩ := List.mem_iff_getElem.1 hpm
    exact freeAll_mem hfree i hi
  have hsrclive : ∀ q ∈ srcs, ∃ t, S.roots q = .live t [] := fun q hq => by
    obtain ⟨i, hi, rfl⟩ := List.mem_iff_getElem.1 hq
    exact ⟨_, hsg i hi (by omega)⟩
  have hsrcid : ∀ q ∈ srcs, q ∉ rs.map (·.1) := fun q hq hm => by
    obtain ⟨t, ht⟩ := hsrclive q hq
    rw [hidfree q hm] at ht; cases ht
  let hs' : Nat → Option Value := fun r => match ((rs.map (·.1)).zip xs).lookup r with | some x => some x | none => hs r
  let fp'' : Nat → List Nat := fun r => match ((rs.map (·.1)).zip fs).lookup r with | some f => f | none => match (srcs.zip (List.range srcs.length)).lookup r with | some i => fp' (1000000000 + i) | none => fp r
  have hsA : ∀ i (h : i < rs.length), hs' rs[i].1 = some (xs.getD i Go.undef) := fun i h => by
    have := lookup_zip (ks := rs.map (·.1)) (vs := xs) (by simp [hp.xl]) hids i (by simpa using h) (by rw [hp.xl]; exact h)
    simp only [List.getElem_map] at this
    simp only [hs', this]
    rw [List.getD_eq_getElem?_getD, List.getElem?_eq_getElem (by rw [hp.xl]; exact h)]; rfl
  have hsB : ∀ r, r ∉ rs.map (·.1) → hs' r = hs r := fun r h => by simp only [hs', lookup_zip_none h]
  have fpA : ∀ i (h : i < rs.length), fp'' rs[i].1 = fs.getD i [] := fun i h => by
    have := lookup_zip (ks := rs.map (·.1)) (vs := fs) (by simp [hp.fl]) hids i (by simpa using h) (by rw [hp.fl]; exact h)
    simp only [List.getElem_map] at this
    simp only [fp'', this]
    rw [List.getD_eq_getElem?_getD, List.getElem?_eq_getElem (by rw [hp.fl]; exact h)]; rfl
  have fpB : ∀ i (h : i < srcs.length), fp'' srcs[i] = fp' (1000000000 + i) := fun i h => by
    have h1 := lookup_zip_none (vs := fs) (hsrcid _ (List.getElem_mem h))
    have h2 := lookup_zip (ks := srcs) (vs := List.range srcs.length) (by simp) hsn i h (by simpa using h)
    simp only [List.getElem_range] at h2
    simp only [fp'', h1, h2]
  have fpC : ∀ r, r ∉ rs.map (·.1) → r ∉ srcs → fp'' r = fp r := fun r h1 h2 => by simp only [fp'', lookup_zip_none h1, lookup_zip_none h2]
  have hh : ∀ r y, hs r = some y → hs' r = some y := fun r y h => by
    by_cases hm : r ∈ rs.map (·.1)
    · have := g.root r
      rw [hidfree r hm] at this
      rw [this.1] at h; cases h
    · rw [hsB r hm]; exact h
  -- three kinds of roots
  have kinds : ∀ r, (∃ i, ∃ h : i < rs.length, r = rs[i].1) ∨ (∃ i, ∃ h : i < srcs.length, r = srcs[i]) ∨ (r ∉ rs.map (·.1) ∧ r ∉ srcs) := fun r => by
    by_cases h1 : r ∈ rs.map (·.1)
    · obtain ⟨p, hpm, rfl⟩ := List.mem_map.1 h1
      obtain ⟨i, hi, rfl⟩ := List.mem_iff_getElem.1 hpm
      exact .inl ⟨i, hi, rfl⟩
    · by_cases h2 : r ∈ srcs
      · obtain ⟨i, hi, rfl⟩ := List.mem_iff_getElem.1 h2; exact .inr (.inl ⟨i, hi, rfl⟩)
      · exact .inr (.inr ⟨h1, h2⟩)
  have where_ : ∀ r b, b ∈ fp'' r → (∃ i, ∃ h : i < rs.length, r = rs[i].1 ∧ b ∈ fs.getD i [] ∧ b ∈ fr) ∨ (∃ i, ∃ h : i < srcs.length, r = srcs[i] ∧ b ∈ fp' (1000000000 + i)) ∨ (r ∉ rs.map (·.1) ∧ r ∉ srcs ∧ b ∈ fp r) := fun r b hb => by
    rcases kinds r with ⟨i, h, rfl⟩ | ⟨i, h, rfl⟩ | ⟨h1, h2⟩
    · rw [fpA i h] at hb; exact .inl ⟨i, h, rfl, hb, hp.sub.subset (mem_flatten_getD hb)⟩
    · rw [fpB i h] at hb; exact .inr (.inl ⟨i, h, rfl, hb⟩)
    · rw [fpC r h1 h2] at hb; exact .inr (.inr ⟨h1, h2, hb⟩)
  have hOO : ∀ b, ¬ ON b → ¬ Ob X fp'' b := by
    rintro b h1 (h | ⟨r, hr⟩)
    · exact h1 ((hON b).2 (.inl h))
    · rcases where_ r b hr with ⟨i, h, rfl, _, h2⟩ | ⟨i, h, rfl, h2⟩ | ⟨h2, h3, h4⟩
      · exact h1 ((hON b).2 (.inr (.inr (.inr h2))))
      · exact h1 ((hON b).2 (.inr (.inr (.inl ⟨_, h2⟩))))
      · exact h1 ((hON b).2 (.inr (.inl ⟨r, h3, h4⟩)))
  have hO : ∀ b, ¬ Ob X fp b → b < w.heap.size → ¬ Ob X fp'' b := by
    rintro b h1 hlt (h | ⟨r, hr⟩)
    · exact h1 (.inl h)
    · rcases where_ r b hr with ⟨i, h, rfl, _, h2⟩ | ⟨i, h, rfl, h2⟩ | ⟨h2, h3, h4⟩
      · rcases hrold b h2 with ⟨q, _, hq⟩ | h2
        · exact h1 (.inr ⟨q, hq⟩)
        · omega
      · rcases hold _ b h2 with ⟨q, _, hq⟩ | h2
        · exact h1 (.inr ⟨q, hq⟩)
        · omega
      · exact h1 (.inr ⟨r, h4⟩)
  -- a block of an untouched root is in no part that the call has left
  have apart : ∀ r b, r ∉ srcs → b ∈ fp r → (∀ j, b ∉ fp' j) ∧ b ∉ fr := fun r b hr hb => by
    refine ⟨fun j hj => ?_, fun hf => ?_⟩
    · rcases hold j b hj with ⟨q, hq, hbq⟩ | h
      · have := g.disj r q b hb hbq; exact hr (this ▸ hq)
      · have := g.lt hb; omega
    · rcases hrold b hf with ⟨q, hq, hbq⟩ | h
      · have := g.disj r q b hb hbq; exact hr (this ▸ hq)
      · have := g.lt hb; omega
  have hfsn : fs.flatten.Nodup := hp.sub.nodup out.rnodup
  refine ⟨hs', fp'', ⟨g.size, g.defers, fun i => (g.env i).mono hk hO hh, fun r => ?_, fun r r' b hr hr' => ?_, fun r => ?_, fun r b hb => ?_, g.xold, g.xout, fun r b hb => ?_, ?_, fun r t lk hr => ?_, fun r y hr => ?_, g.small, fun r y hr0 hr => ?_⟩, hsA, hOO⟩
  · show RootOK _ _ _ (updL (updS S.roots srcs rout) rs r) _ _
    rcases updL_mem (f := updS S.roots srcs rout) (rs := rs) (r := r) with ⟨i, hi, rfl, h2⟩ | ⟨h1, h2⟩
    · rw [h2, hsA i hi, fpA i hi]
      exact ⟨_, rfl, (hp.ow i hi).1.mono (fun _ _ _ _ _ h => h) (fun b h _ => hOO b h) (fun _ _ _ _ _ h => h), fun p hp => by simp at hp⟩
    · have hr1 : r ∉ rs.map (·.1) := fun hm => by
        obtain ⟨p, hpm, rfl⟩ := List.mem_map.1 hm
        obtain ⟨i, hi, rfl⟩ := List.mem_iff_getElem.1 hpm
        exact h1 i hi rfl
      rw [h2]
      rcases updS_mem (f := S.roots) (r := r) hsrl with ⟨i, hi, hi', rfl, h4⟩ | ⟨h3, h4⟩
      · rw [h4, hsB _ hr1, fpB i hi]
        obtain ⟨x, hx, ho, _⟩ := hroot i _ (List.getElem?_eq_getElem hi')
        rw [hhc i _ (List.getElem?_eq_getElem hi)] at hx
        exact ⟨x, hx, ho.mono (fun _ _ _ _ _ h => h) (fun b h _ => hOO b h) (fun _ _ _ _ _ h => h), fun p hp => by simp at hp⟩
      · have hr2 : r ∉ srcs := fun hm => by
          obtain ⟨i, hi, rfl⟩ := List.mem_iff_getElem.1 hm
          exact h3 i hi rfl
        rw [h4, fpC r hr1 hr2]
        exact g.keepRoot r hk hO hh (hsB r hr1) (hkf r hr2)
  · rcases where_ r b hr with ⟨i, h, rfl, h1, h2⟩ | ⟨i, h, rfl, h2⟩ | ⟨h1, h2, h3⟩ <;> rcases where_ r' b hr' with ⟨j, h', rfl, h1', h2'⟩ | ⟨j, h', rfl, h2'⟩ | ⟨h1', h2', h3'⟩
    · by_cases hij : i = j
      · subst hij; rfl
      · exfalso
        have hi' : i < fs.length := by rw [hp.fl]; exact h
        have hj' : j < fs.length := by rw [hp.fl]; exact h'
        have := not_mem_flatten_set hfsn h1
        refine this (List.mem_flatten.2 ⟨fs[j], ?_, ?_⟩)
        · have : (fs.set i [])[j]? = some fs[j] := by rw [List.getElem?_set_ne hij]; exact List.getElem?_eq_getElem hj'
          exact List.mem_of_getElem? this
        · rwa [List.getD_eq_getElem?_getD, List.getElem?_eq_getElem hj'] at h1'
    · exact (out.rdisj _ b h2' h2).elim
    · exact ((apart r' b h2' h3').2 h2).elim
    · exact (out.rdisj _ b h2 h2').elim
    · have := out.disj _ _ b h2 h2'
      have : i = j := by omega
      subst this; rfl
    · exact ((apart r' b h2' h3').1 _ h2).elim
    · exact ((apart r b h2 h3).2 h2').elim
    · exact ((apart r b h2 h3).1 _ h2').elim
    · exact g.disj r r' b h3 h3'
  · rcases kinds r with ⟨i, h, rfl⟩ | ⟨i, h, rfl⟩ | ⟨h1, h2⟩
    · rw [fpA i h]; exact nodup_getD hfsn
    · rw [fpB i h]; exact out.nodup _
    · rw [fpC r h1 h2]; exact g.nodup r
  · have key : (∃ q, q ∈ srcs ∧ b ∈ fp q) ∨ w.heap.size ≤ b → ¬ X b := by
      rintro (⟨q, _, hq⟩ | h)
      · exact g.foreign q b hq
      · intro hX; have := g.xold b hX; have := g.hist.size; omega
    rcases where_ r b hb with ⟨i, h, rfl, _, h2⟩ | ⟨i, h, rfl, h2⟩ | ⟨h2, h3, h4⟩
    · exact key (hrold b h2)
    · exact key (hold _ b h2)
    · exact g.foreign r b h4
  · have key : (∃ q, q ∈ srcs ∧ b ∈ fp q) ∨ w.heap.size ≤ b → O0 b ∨ w0.heap.size ≤ b := by
      rintro (⟨q, _, hq⟩ | h)
      · exact g.mine q b hq
      · right; have := g.hist.size; omega
    rcases where_ r b hb with ⟨i, h, rfl, _, h2⟩ | ⟨i, h, rfl, h2⟩ | ⟨h2, h3, h4⟩
    · exact key (hrold b h2)
    · exact key (hold _ b h2)
    · exact g.mine r b h4
  · refine ⟨out.os.trans g.hist.os, out.tape.trans g.hist.tape, out.output.trans g.hist.output, Nat.le_trans g.hist.size out.size, fun b hb hn => ?_⟩
    rw [hframe b (Nat.lt_of_lt_of_le hb g.hist.size) fun q _ hq => ?_]
    · exact g.hist.block b hb hn
    · rcases g.mine q b hq with h | h
      · exact hn h
      · omega
  · have hr : updL (updS S.roots srcs rout) rs r = .live t lk := hr
    rcases updL_mem (f := updS S.roots srcs rout) (rs := rs) (r := r) with ⟨i, hi, rfl, h2⟩ | ⟨h1, h2⟩ <;> rw [h2] at hr
    · cases hr; exact (hp.ow i hi).2
    · rcases updS_mem (f := S.roots) (r := r) hsrl with ⟨i, hi, hi', rfl, h4⟩ | ⟨h3, h4⟩ <;> rw [h4] at hr
      · cases hr
        obtain ⟨_, _, _, hrt⟩ := hroot i _ (List.getElem?_eq_getElem hi')
        exact hrt
      · exact g.rooty r t lk hr
  · rcases kinds r with ⟨i, h, rfl⟩ | h
    · rw [hsA i h, Option.some.injEq] at hr
      rw [← hr]
      have h1 := hp.ow i h
      refine h1.1.oneCell ?_
      have := h1.2
      cases hrs : rs[i].2 <;> rw [hrs] at this <;> simp [T.rooty, T.cell] at this ⊢
    · have hr1 : r ∉ rs.map (·.1) := by
        rcases h with ⟨i, h, rfl⟩ | ⟨h, _⟩
        · exact hsrcid _ (List.getElem_mem _)
        · exact h
      rw [hsB r hr1] at hr; exact g.hdr r y hr
  · rcases kinds r with ⟨i, h, rfl⟩ | h
    · have := hsmall i h; omega
    · have hr1 : r ∉ rs.map (·.1) := by
        rcases h with ⟨i, h, rfl⟩ | ⟨h, _⟩
        · exact hsrcid _ (List.getElem_mem _)
        · exact h
      rw [hsB r hr1] at hr; exact g.pin r y hr0 hr

/-- A slot's function, with what it has captured. -/
def fnA : A → Option (Nat × List A)
  | .fn f cap => some (f, cap)
  | .t (.fn f cap) => some (f, cap.map A.t)
  | _ => none
theorem fnA_is {w : World} {O : Nat → Prop} {hs : Nat → Option Value} {x : A} {f : Nat} {cap : List A} {v : Value} (hx : fnA x = some (f, cap)) (h : Is w O hs x v) : Is w O hs (.fn f cap) v := by
  unfold fnA at hx
  split at hx
  · cases hx; exact h
  · cases hx
    cases h with
    | t h =>
      cases h with
      | fn _ _ _ hl hr => exact .fn (by simpa using hl) fun i hi => by rw [List.getElem_map]; exact .t (hr i (by simpa using hi))
  · cases hx

theorem OpW.call {o : Oper} {fo : Operand} {as : Array Operand} {ats : Array TypeId} {K : St → Prop} (ho : o.op = .call { callee := .value fo, args := as, argTypes := ats }) (hd : ∀ k, o.dst = some k → k < n)
    {f : FuncId} {cap : List A} (hfo : fnA (S.ev fo) = some (f, cap)) (hcall : ∀ args w, (callFunc f args).run P w = .ok (.enter f args) w) {rin : List T} {args : List A} {Q : List T → T → Prop} (hF : Fun P f rin args Q)
    (srcs bor : List Nat) (hsn : srcs.Nodup) (hsrc : srcsOK S srcs rin) (hsb : ∀ q ∈ bor, q ∉ srcs) (hargs : vaL S srcs bor args (as.toList.map S.ev ++ cap))
    (hk : ∀ rout res, Q rout res → (bor = [] ∨ (res.noSh ∧ T.noShL rout)) ∧ afterCall S o.dst srcs rout res K) : OpW P n o S K := by
  intro X w0 O0 a w hs fp g QQ
  obtain ⟨hsl, hsg⟩ := srcsOK_get hsrc
  -- the arguments as values
  have hf := fnA_is hfo (g.ev fo)
  obtain ⟨caps, hfv, hcl, hci⟩ : ∃ caps : List Value, a.eval fo = .func (.func f) #[] caps.toArray ∧ caps.length = cap.length ∧ ∀ i (h : i < cap.length), Is w (Ob X fp) hs cap[i] (caps.getD i Go.undef) := by
    generalize a.eval fo = vf at hf
    cases hf with | fn hl hr => exact ⟨_, rfl, hl, hr⟩
  let vals : List Value := as.toList.map a.eval ++ caps
  have hvals : ∀ i (h : i < (as.toList.map S.ev ++ cap).length), Is w (Ob X fp) hs (as.toList.map S.ev ++ cap)[i] (vals.getD i Go.undef) := by
    intro i h
    by_cases hi : i < as.toList.length
    · rw [List.getElem_append_left (by simpa using hi), List.getD_eq_getElem?_getD, List.getElem?_append_left (by simpa using hi), List.getElem?_map, List.getElem?_eq_getElem hi]
      simp only [List.getElem_map, Option.map_some, Option.getD_some]
      exact g.ev _
    · have hi2 : i - as.toList.length < cap.length := by simp at h hi ⊢; omega
      rw [List.getElem_append_right (by simpa using hi), List.getD_eq_getElem?_getD, List.getElem?_append_right (by simpa using hi)]
      have := hci (i - as.toList.length) hi2
      simpa [List.getD_eq_getElem?_getD] using this
  have hrun : (execOp a.eval o).run P w = .ok (.enter f vals.toArray) w := by
    have e : (as.map a.eval ++ caps.toArray) = vals.toArray := by
      apply Array.ext'; simp [vals]
    simp only [execOp, ho, resolve, hfv, Deferred.ofValue, Sem.run_bind, Sem.run_pure, Result.andThen_ok, invoke]
    rw [show (#[] ++ as.map a.eval : Array Value) = as.map a.eval by simp, e]
    exact hcall _ w
  -- the callee's view
  let Xc : Nat → Prop := fun b => X b ∨ ∃ q, q ∉ srcs ∧ q ∉ bor ∧ b ∈ fp q
  let hsc : Nat → Option Value := fun r => if 1000000000 ≤ r then (srcs[r - 1000000000]?).bind hs else none
  let fpc : Nat → List Nat := fun r => if 1000000000 ≤ r then ((srcs[r - 1000000000]?).map fp).getD [] else []
  have hhc : ∀ i q, srcs[i]? = some q → hsc (1000000000 + i) = hs q := fun i q h => by
    simp only [hsc]; rw [if_pos (by omega), Nat.add_sub_cancel_left, h]; rfl
  have hfci : ∀ i q, srcs[i]? = some q → fpc (1000000000 + i) = fp q := fun i q h => by
    simp only [fpc]; rw [if_pos (by omega), Nat.add_sub_cancel_left, h]; rfl
  have hfc' : ∀ j b, b ∈ fpc j → ∃ i q, srcs[i]? = some q ∧ j = 1000000000 + i ∧ b ∈ fp q := fun j b hb => by
    simp only [fpc] at hb
    split at hb
    · cases hq : srcs[j - 1000000000]? with
      | none => rw [hq] at hb; simp at hb
      | some q => rw [hq] at hb; exact ⟨j - 1000000000, q, hq, by omega, by simpa using hb⟩
    · simp at hb
  have hfc : ∀ j b, b ∈ fpc j → ∃ q, q ∈ srcs ∧ b ∈ fp q := fun j b hb => by
    obtain ⟨i, q, h1, _, h2⟩ := hfc' j b hb; exact ⟨q, List.mem_of_getElem? h1, h2⟩
  have hOc : ∀ b, Ob Xc fpc b → Ob X fp b := by
    rintro b ((h | ⟨q, _, _, h⟩) | ⟨j, hj⟩)
    · exact .inl h
    · exact .inr ⟨q, h⟩
    · obtain ⟨q, _, h⟩ := hfc j b hj; exact .inr ⟨q, h⟩
  have hO1 : ∀ b, ¬ Ob X fp b → b < w.heap.size → ¬ Ob Xc fpc b := fun b h _ h2 => h (hOc b h2)
  have hbor : ∀ q ∈ bor, ∀ b ∈ fp q, ¬ Ob Xc fpc b := by
    rintro q hq b hb ((h | ⟨q', h1, h2, h3⟩) | ⟨j, hj⟩)
    · exact g.foreign q b hb h
    · have := g.disj q q' b hb h3; exact h2 (this ▸ hq)
    · obtain ⟨q', h1, h2⟩ := hfc j b hj
      have := g.disj q q' b hb h2
      exact hsb q hq (this ▸ h1)
  have hm : Mem Xc w rin hsc fpc := by
    refine ⟨fun i t hi => ?_, fun r hr => ?_, fun r r' b h h' => ?_, fun r => ?_, fun r b h => ?_, fun b h => ?_, fun r y h => ?_⟩
    · obtain ⟨hil, rfl⟩ := List.getElem?_eq_some_iff.1 hi
      have hq := List.getElem?_eq_getElem (l := srcs) (i := i) (by omega)
      have hroot := g.root srcs[i]
      have hlive := hsg i (by omega) hil
      rw [hlive] at hroot
      obtain ⟨x, hx, ho', _⟩ := hroot
      refine ⟨x, by rw [hhc i _ hq]; exact hx, ?_, g.rooty _ _ _ hlive⟩
      rw [hfci i _ hq]
      exact ho'.mono (fun _ _ _ _ _ h => h) hO1 (fun _ _ _ _ _ h => h)
    · simp only [hsc, fpc]
      by_cases h1 : 1000000000 ≤ r
      · rw [if_pos h1, if_pos h1, List.getElem?_eq_none (by omega)]; exact ⟨rfl, rfl⟩
      · rw [if_neg h1, if_neg h1]; exact ⟨rfl, rfl⟩
    · obtain ⟨i, q, h1, rfl, h2⟩ := hfc' r b h
      obtain ⟨i', q', h1', rfl, h2'⟩ := hfc' r' b h'
      have := g.disj q q' b h2 h2'
      subst this
      obtain ⟨hi1, e1⟩ := List.getElem?_eq_some_iff.1 h1
      obtain ⟨hi2, e2⟩ := List.getElem?_eq_some_iff.1 h1'
      rcases Nat.lt_trichotomy i i' with h | h | h
      · exact (List.pairwise_iff_getElem.1 hsn i i' hi1 hi2 h (e1.trans e2.symm)).elim
      · rw [h]
      · exact (List.pairwise_iff_getElem.1 hsn i' i hi2 hi1 h (e2.trans e1.symm)).elim
    · simp only [fpc]
      split
      · cases srcs[r - 1000000000]? with
        | none => simp
        | some q => simpa using g.nodup q
      · simp
    · rintro (hX | ⟨q', h1, _, h3⟩)
      · obtain ⟨q, _, h2⟩ := hfc r b h; exact g.foreign q b h2 hX
      · obtain ⟨q, hq, h2⟩ := hfc r b h
        have := g.disj q q' b h2 h3
        exact h1 (this ▸ hq)
    · rcases h with h | ⟨q, _, _, h⟩
      · exact Nat.lt_of_lt_of_le (g.xold b h) g.hist.size
      · exact g.lt h
    · simp only [hsc] at h
      split at h
      · cases hq : srcs[r - 1000000000]? with
        | none => rw [hq] at h; cases h
        | some q => rw [hq] at h; exact g.hdr q y h
      · cases h
  obtain ⟨hal, hai⟩ := vaL_is (hs' := hsc) g hO1 hbor hhc args _ hargs hvals
  have hcalls := hF Xc w vals hsc fpc hm (by simp only [vals, List.length_append, List.length_map] at hal ⊢; rw [hcl]; exact hal.symm) hai
  unfold Oper.wp
  rw [hrun, Oper.upon_enter]
  refine hcalls.mono ?_
  rintro e w' ⟨v, res, rout, fr, fp', rfl, hQ, hrl, out⟩
  obtain ⟨hns, hK⟩ := hk rout res hQ
  -- what may not be read as shared behind the call
  let ON : Nat → Prop := fun b => X b ∨ (∃ q, q ∉ srcs ∧ b ∈ fp q) ∨ (∃ j, b ∈ fp' j) ∨ b ∈ fr
  have conv : ∀ (t : T) (x : Value) (ff : List Nat), (bor = [] ∨ t.noSh) → Ow w' (Ob' Xc fp' fr) t x ff → Ow w' ON t x ff := by
    intro t x ff h ho'
    rcases h with h | h
    · refine ho'.mono (fun _ _ _ _ _ h => h) (fun b h1 _ h2 => h1 ?_) (fun _ _ _ _ _ h => h)
      rcases h2 with h2 | ⟨q, h2, h3⟩ | ⟨j, h2⟩ | h2
      · exact .inl (.inl (.inl h2))
      · exact .inl (.inl (.inr ⟨q, h2, by rw [h]; simp, h3⟩))
      · exact .inl (.inr ⟨j, h2⟩)
      · exact .inr h2
    · exact ho'.noSh h
  have hroot : ∀ i t, rout[i]? = some t → ∃ x, hsc (1000000000 + i) = some x ∧ Ow w' ON t x (fp' (1000000000 + i)) ∧ t.rooty = true := fun i t hi => by
    obtain ⟨x, hx, ho', hrt⟩ := out.root i t hi
    exact ⟨x, hx, conv t x _ (hns.imp id fun h => (T.noShL_iff rout).1 h.2 _ (List.mem_of_getElem? hi)) ho', hrt⟩
  have hres := conv res v fr (hns.imp id fun h => h.1) out.res
  cases hdst : o.dst with
  | none =>
    rw [hdst] at hK
    obtain ⟨hs', fp'', g', _, _⟩ := g.after0 hsn hsrc hrl (bor := bor) (fun b => Iff.rfl) hhc hfc out (ON := ON) (fun b => Iff.rfl) hroot (dd := 0) (rs := []) (xs := []) (fs := []) ⟨rfl, rfl, fun i h => absurd h (by simp), List.nil_sublist _, rfl, fun i h => absurd h (by simp)⟩ trivial (fun i h => absurd h (by simp))
    exact ⟨_, hs', fp'', g', hK⟩
  | some d =>
    rw [hdst] at hK
    obtain ⟨hfree, hcount, hK⟩ := hK
    have hdn : @LT.lt Nat instLTNat d n := hd d hdst
    have hn5 : n ≤ 100000 := g.small
    obtain ⟨xs, fs, hp, hi⟩ := absT_spec d res 0 hres
    have hcnt : (absT d 0 res).2.2 = (absT d 0 res).2.1.length := by rw [hp.le]; omega
    obtain ⟨hs', fp'', g', hA, hOO⟩ := g.after0 hsn hsrc hrl (bor := bor) (fun b => Iff.rfl) hhc hfc out (ON := ON) (fun b => Iff.rfl) hroot (dd := d) (rs := (absT d 0 res).2.1) (xs := xs) (fs := fs) ⟨hp.xl, hp.fl, hp.ow, hp.sub, by omega, hp.ids⟩ hfree (fun i h => by
      rw [hp.ids i h]
      unfold rid; split
      · omega
      · have : i < 1000 := by omega
        have : 1000 * (d + 1) ≤ 1000 * 100000 := Nat.mul_le_mul_left _ (by omega)
        omega)
    have his := (hi hs' hA).mono (O' := Ob X fp'') (fun _ _ _ _ _ h => h) (fun b h _ => hOO b h) (fun _ _ h => h)
    exact ⟨_, hs', fp'', g'.put hdn his, hK⟩
end
end Go.Ab
