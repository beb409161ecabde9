/- The abstract layer, part 26: the rule for a region that draws its order. -/
import Derived.Test.YtbilpaghpgomeaaAb24
set_option linter.unusedSimpArgs false
set_option linter.unusedVariables false
namespace Go.Ab

section
variable {P : Program} {n : Nat} {S : St} {X : Nat → Prop} {w0 : World} {O0 : Fr} {a : Act} {w : World} {hs : Nat → Option Value} {fp : Nat → List Nat}

theorem Good.drawn (g : Good X w0 O0 n S a w hs fp) (k : Nat) : Good X w0 O0 n S a { w with drawn := k } hs fp := by
  have hk : Keeps (fun b => ¬ Ob X fp b) w { w with drawn := k } := fun b cs e fz _ h => h
  exact ⟨g.size, g.defers, fun i => (g.env i).mono hk (fun b h _ => h) (fun _ _ h => h), fun r => g.keepRoot r hk (fun b h _ => h) (fun _ _ h => h) rfl (fun b _ => rfl), g.disj, g.nodup, g.foreign, g.xold, g.xout, g.mine, ⟨g.hist.os, g.hist.tape, g.hist.output, g.hist.size, g.hist.block⟩, g.rooty, g.hdr, g.small, g.pin⟩

theorem item_wpOp {ops : Array Oper} {i : Nat} {o : Oper} {ci : CI} {Kc : St → Prop} {Q : Exit → Act → World → Prop} (ho : ops[i]? = some o) (hc : trI P n ops o = some ci) (hW : opsW P n [ci] Kc S) (g : Good X w0 O0 n S a w hs fp) :
    wpOp P ops Q i (fun a' w' => ∃ S' hs' fp', Good X w0 O0 n S' a' w' hs' fp' ∧ Kc S') a w := by
  unfold wpOp
  simp only [ho]
  simp only [trI] at hc
  split at hc
  · rename_i co hco
    split at hc
    · rename_i hg
      cases hc
      have hw : Region.wanted o (yielded ops a.tmps) = true := by simp [Region.wanted, hg]
      rw [if_pos hw]
      exact .inl (trO_sound hco hW X w0 O0 a w hs fp g Q)
    · rename_i j want hg
      split at hc
      · rename_i oj hoj
        have core : ∀ s d, oj.dst = some s → o.dst = d → (∀ k, d = some k → k < n) → opsW P n [.g s want d co] Kc S →
            if Region.wanted o (yielded ops a.tmps) = true then o.wp P a w (fun a' w' => ∃ S' hs' fp', Good X w0 O0 n S' a' w' hs' fp' ∧ Kc S') Q ∨ (o.asks P a w ∧ LetsOut Q) else ∃ S' hs' fp', Good X w0 O0 n S' (a.put o.dst Go.undef) w hs' fp' ∧ Kc S' := by
          intro s d hs' hdd hdn hW
          simp only [opsW] at hW
          unfold guardC at hW
          split at hW
          · rename_i b hb
            have hval := g.env s
            rw [hb] at hval
            have hval := hval.v_inv
            have ht : a.tmps[s]? = some (.bool b) := by
              rw [Array.getD_eq_getD_getElem?] at hval
              cases hx : a.tmps[s]? with
              | none => rw [hx] at hval; simp [undef] at hval
              | some v => rw [hx] at hval; simpa using hval
            have hy := yielded_eq hoj hs' ht
            by_cases hbw : b = want
            · have hw : Region.wanted o (yielded ops a.tmps) = true := by simp [Region.wanted, hg, hy, hbw]
              rw [if_pos hw]
              have h1 := hW.1 hbw
              rw [env_upd_eq _ _ _ (by rw [hb, hbw])] at h1
              exact .inl (trO_sound hco h1 X w0 O0 a w hs fp g Q)
            · have hw : ¬ Region.wanted o (yielded ops a.tmps) = true := by simp [Region.wanted, hg, hy, hbw]
              rw [if_neg hw]
              have e' : b = !want := by cases b <;> cases want <;> simp_all
              have h1 := hW.2 e'
              rw [env_upd_eq _ _ _ (by rw [hb, e'])] at h1
              exact ⟨_, hs, fp, g.noval o.dst (fun k hk => hdn k (hdd ▸ hk)), hdd ▸ h1⟩
          · exact hW.elim
        split at hc
        · rename_i s d hs' hdd
          split at hc
          · rename_i hdn
            cases hc
            exact core s (some d) hs' hdd (fun k hk => by cases hk; exact hdn) hW
          · cases hc
        · rename_i s hs' hdd
          cases hc
          exact core s none hs' hdd (fun k hk => by cases hk) hW
        · cases hc
      · cases hc
  · cases hc

/-- The edges that bind. -/
def afOf (ops : Array Oper) : List (List Nat) := ops.toList.map fun o => (o.after.toList.filter (Region.binds .any)).map (·.on)

def closed (af : List (List Nat)) (D : Nat → Prop) : Prop := ∀ i, D i → ∀ j ∈ af.getD i [], D j

theorem anc_in {af anc : List (List Nat)} {m : Nat} (h1 : ∀ i, i < m → ∀ j ∈ af.getD i [], j < i) (h2 : ∀ i, i < m → ∀ j ∈ anc.getD i [], j ∈ af.getD i [] ∨ ∃ k, k ∈ af.getD i [] ∧ j ∈ anc.getD k [])
    {D : Nat → Prop} (hD : closed af D) : ∀ i, i < m → (∀ j ∈ af.getD i [], D j) → ∀ j ∈ anc.getD i [], D j := by
  intro i
  induction i using Nat.strongRecOn with
  | _ i ih =>
    intro hi haf j hj
    rcases h2 i hi j hj with h | ⟨k, hk, hjk⟩
    · exact haf j h
    · have hki := h1 i hi k hk
      exact ih k hki (by omega) (hD k (haf k hk)) j hjk

structure DrawFacts (l : List (DK × CI)) (af anc : List (List Nat)) : Prop where
  afl : af.length = l.length
  dst : ∀ i j, i < l.length → j < l.length → i ≠ j → ∀ s, dstAt l i = some s → dstAt l j ≠ some s
  fwd : ∀ i, i < l.length → ∀ j ∈ af.getD i [], j < i
  afwd : ∀ i, i < l.length → ∀ j ∈ anc.getD i [], j < i
  ancs : ∀ i, i < l.length → ∀ j ∈ anc.getD i [], j ∈ af.getD i [] ∨ ∃ k, k ∈ af.getD i [] ∧ j ∈ anc.getD k []
  item : ∀ p ∈ l, itemOK p = true
  self : ∀ i, i < l.length → ∀ s ∈ rdAt l i, dstAt l i ≠ some s
  ind : ∀ i j, i < l.length → j < l.length → j ≠ i → j ∈ anc.getD i [] ∨ i ∈ anc.getD j [] ∨ ((∀ s ∈ rdAt l i, dstAt l j ≠ some s) ∧ ¬ (kAt l i = .h ∧ kAt l j ≠ .e))

def drawOK (l : List (DK × CI)) (af anc : List (List Nat)) : Bool :=
  (af.length == l.length) && l.all itemOK && (List.range l.length).all fun i =>
    (af.getD i []).all (fun j => decide (j < i)) && (anc.getD i []).all (fun j => decide (j < i) && ((af.getD i []).contains j || (af.getD i []).any fun k => (anc.getD k []).contains j)) &&
    (rdAt l i).all (fun s => dstAt l i != some s) &&
    (List.range l.length).all fun j => j == i || ((match dstAt l i with | some s => dstAt l j != some s | none => true) && ((anc.getD i []).contains j || (anc.getD j []).contains i ||
      ((rdAt l i).all fun s => dstAt l j != some s) && !(kAt l i == .h && kAt l j != .e)))

theorem drawOK_spec {l : List (DK × CI)} {af anc : List (List Nat)} (h : drawOK l af anc = true) : DrawFacts l af anc := by
  simp only [drawOK, Bool.and_eq_true, beq_iff_eq, List.all_eq_true, List.mem_range, decide_eq_true_eq, Bool.or_eq_true, List.contains_iff_mem, List.any_eq_true, bne_iff_ne, Bool.not_eq_true', Bool.and_eq_false_iff] at h
  obtain ⟨⟨h1, h2⟩, h3⟩ := h
  refine ⟨h1, fun i j hi hj hij s hs => ?_, fun i hi => (h3 i hi).1.1.1, fun i hi j hj => ((h3 i hi).1.1.2 j hj).1, fun i hi j hj => ((h3 i hi).1.1.2 j hj).2, h2, fun i hi => (h3 i hi).1.2, fun i j hi hj hji => ?_⟩
  · have := ((h3 i hi).2 j hj).resolve_left (Ne.symm hij)
    have := this.1
    rw [hs] at this
    simpa using this
  · have := (((h3 i hi).2 j hj).resolve_left hji).2
    rcases this with (h | h) | ⟨h, h'⟩
    · exact .inl h
    · exact .inr (.inl h)
    · refine .inr (.inr ⟨h, fun ⟨ha, hb⟩ => ?_⟩)
      rcases h' with h' | h'
      · rw [ha] at h'; exact absurd h' (by decide)
      · cases hk : kAt l j <;> rw [hk] at h' hb <;> first | exact hb rfl | exact absurd h' (by decide)

theorem ord_of {l : List (DK × CI)} {af anc : List (List Nat)} (F : DrawFacts l af anc) {D : Nat → Prop} (hD : closed af D) {i : Nat} (hi : i < l.length) (hDi : ¬ D i) (haf : ∀ j ∈ af.getD i [], D j) : Ord l D i := by
  intro j hj hji
  have before : j ∈ anc.getD i [] → j < i ∧ D j := fun h => ⟨F.afwd i hi j h, anc_in F.fwd F.ancs hD i hi haf j h⟩
  have after : i ∈ anc.getD j [] → i < j ∧ ¬ D j := fun h => ⟨F.afwd j hj i h, fun hDj => hDi (anc_in F.fwd F.ancs hD j hj (hD j hDj) i h)⟩
  rcases F.ind i j hi hj hji with h | h | h
  · exact .inl (before h)
  · exact .inr (.inl (after h))
  · rcases F.ind j i hj hi (Ne.symm hji) with h' | h' | h'
    · exact .inr (.inl (after h'))
    · exact .inl (before h')
    · exact .inr (.inr ⟨h.1, h.2, h'.2⟩)

theorem wpAny_draw {ops : Array Oper} {l : List (DK × CI)} {af anc : List (List Nat)} (F : DrawFacts l af anc) (haf : af = afOf ops) (hsz : ops.size = l.length) (htr : ∀ i (h : i < l.length), ∃ o, ops[i]? = some o ∧ trI P n ops o = some l[i].2)
    {v : Nat → A} {rt : Nat → Nat → Root} {e0 : Nat → A} (hloc : ∀ i (h : i < l.length), (l[i].1 ≠ .h → rt (i + 1) = rt i) ∧ LocAt P n l[i].1 l[i].2 ⟨envAt l v e0 i, rt i⟩ (v i) (rt (i + 1)))
    {Q : Exit → Act → World → Prop} (hQ : ∀ S a w hs fp, Good X w0 O0 n S a w hs fp → S = ⟨envAt l v e0 l.length, rt l.length⟩ → Q .normal a w) :
    ∀ (fuel : Nat) (listed : Array Bool) (S : St) (a : Act) (w : World) (hs : Nat → Option Value) (fp : Nat → List Nat), Good X w0 O0 n S a w hs fp → listed.size = l.length → ((List.range l.length).filter fun j => !listed.getD j false).length ≤ fuel →
      closed af (fun j => listed.getD j false = true) → AtD l v rt e0 (fun j => listed.getD j false = true) S → wpAny P .any ops Q fuel listed a w := by
  have hrt : ∀ j, j < l.length → kAt l j ≠ .h → rt (j + 1) = rt j := fun j hj hk => (hloc j hj).1 (by simpa [kAt, List.getElem?_eq_getElem hj] using hk)
  have gt : ∀ {listed : Array Bool} {j : Nat}, listed.size = l.length → j < l.length → (listed.getD j true = false ↔ ¬ listed.getD j false = true) := fun {listed j} h1 h2 => by
    have : j < listed.size := by omega
    simp [this]
  have haff : ∀ i o, ops[i]? = some o → ∀ j, j ∈ af.getD i [] ↔ ∃ e ∈ o.after, Region.binds .any e = true ∧ e.on = j := by
    intro i o ho j
    have : (afOf ops).getD i [] = (o.after.toList.filter (Region.binds .any)).map (·.on) := by
      rw [afOf, List.getD_eq_getElem?_getD, List.getElem?_map]
      have : ops.toList[i]? = some o := by simpa using ho
      rw [this]; rfl
    rw [haf, this, List.mem_map]
    constructor
    · rintro ⟨e, he, rfl⟩
      obtain ⟨h1, h2⟩ := List.mem_filter.1 he
      exact ⟨e, by simpa using h1, h2, rfl⟩
    · rintro ⟨e, he, hb, rfl⟩
      exact ⟨e, List.mem_filter.2 ⟨by simpa using he, hb⟩, rfl⟩
  have fin : ∀ (listed : Array Bool) (S : St) (a : Act) (w : World) (hs : Nat → Option Value) (fp : Nat → List Nat), Good X w0 O0 n S a w hs fp → listed.size = l.length → AtD l v rt e0 (fun j => listed.getD j false = true) S → (∀ j, j < l.length → listed.getD j false = true) → Q .normal a w := by
    intro listed S a w hs fp g hls hAt hall
    refine hQ S a w hs fp g ?_
    obtain ⟨hE, hR⟩ := hAt
    have h1 : S.roots = rt l.length := hR _ (Nat.le_refl _) (fun j hj _ => hall j hj) (fun j h h' => absurd h' (by omega))
    have h2 : S.env = envAt l v e0 l.length := by
      funext s
      obtain ⟨ha, hb⟩ := envAt_spec (v := v) (e0 := e0) F.dst s l.length (Nat.le_refl _)
      by_cases hex : ∃ j, j < l.length ∧ dstAt l j = some s
      · obtain ⟨j, hj, hjs⟩ := hex
        rw [ha j hj hjs, (hE s).1 j hj (hall j hj) hjs]
      · rw [hb fun j hj hjs => hex ⟨j, hj, hjs⟩, (hE s).2 fun j hj _ hjs => hex ⟨j, hj, hjs⟩]
    rw [← h1, ← h2]
  have allof : ∀ (listed : Array Bool), listed.size = l.length → closed af (fun j => listed.getD j false = true) → Region.ready .any ops listed = [] → ∀ j, j < l.length → listed.getD j false = true := by
    intro listed hls hcl hr j
    induction j using Nat.strongRecOn with
    | _ j ih =>
      intro hj
      refine Decidable.byContradiction fun hn => ?_
      obtain ⟨o, ho, _⟩ := htr j hj
      have : j ∈ Region.ready .any ops listed := by
        refine mem_ready.2 ⟨(gt hls hj).2 hn, o, ho, fun e he hb => ?_⟩
        have hmem := (haff j o ho e.on).2 ⟨e, he, hb, rfl⟩
        have hlt := F.fwd j hj _ hmem
        exact ih _ hlt (by omega)
      rw [hr] at this
      cases this
  intro fuel
  induction fuel with
  | zero =>
    intro listed S a w hs fp g hls hcnt hcl hAt
    have hall : ∀ j, j < l.length → listed.getD j false = true := fun j hj => by
      have h0 := List.eq_nil_of_length_eq_zero (Nat.le_zero.1 hcnt)
      have := List.filter_eq_nil_iff.1 h0 j (List.mem_range.2 hj)
      simpa using this
    refine ⟨?_, fin listed S a w hs fp g hls hAt hall⟩
    refine List.eq_nil_iff_forall_not_mem.2 fun j hj => ?_
    obtain ⟨h1, o, ho, _⟩ := mem_ready.1 hj
    have hjl : j < l.length := by rw [← hsz]; exact (Array.getElem?_eq_some_iff.1 ho).1
    exact (gt hls hjl).1 h1 (hall j hjl)
  | succ fuel ih =>
    intro listed S a w hs fp g hls hcnt hcl hAt
    refine ⟨fun hr => fin listed S a w hs fp g hls hAt (allof listed hls hcl hr), fun i hi => ?_⟩
    obtain ⟨hun, o, ho, hall⟩ := mem_ready.1 hi
    have hil : i < l.length := by rw [← hsz]; exact (Array.getElem?_eq_some_iff.1 ho).1
    have hDi := (gt hls hil).1 hun
    have hafi : ∀ j ∈ af.getD i [], listed.getD j false = true := fun j hj => by
      obtain ⟨e, he, hb, rfl⟩ := (haff i o ho j).1 hj
      exact hall e he hb
    have hord := ord_of F hcl hil hDi hafi
    obtain ⟨h1, h2, h3⟩ := hAt.step F.dst hrt hil (F.self i hil) hDi hord
    obtain ⟨o', ho', htri⟩ := htr i hil
    rw [ho] at ho'; cases ho'
    have hgi : l[i]? = some l[i] := List.getElem?_eq_getElem hil
    have hrd : rdAt l i = l[i].2.reads := by simp [rdAt, hgi]
    have hka : kAt l i = l[i].1 := by simp [kAt, hgi]
    have hda : dstAt l i = l[i].2.dst := by simp [dstAt, hgi]
    rw [hrd] at h1; rw [hka] at h2 h3; rw [hda] at h3
    have hW := (hloc i hil).2 S.env S.roots (fun S' => S' = ⟨putE S.env l[i].2.dst (v i), if l[i].1 = .h then rt (i + 1) else S.roots⟩) h1 h2 rfl
    have := item_wpOp (Q := Q) ho htri (show opsW P n [l[i].2] _ S from hW) g
    refine wpOp_mono (fun a' w' ⟨S', hs', fp', g', hS'⟩ => ?_) this
    subst hS'
    have hset : ∀ j, (listed.setIfInBounds i true).getD j false = true ↔ (listed.getD j false = true ∨ j = i) := fun j => by
      by_cases hji : j = i
      · subst hji; simp [show j < listed.size by omega]
      · rw [getD_set_ne false (Ne.symm hji)]; simp [hji]
    refine ih _ _ a' w' hs' fp' g' (by simp [hls]) ?_ ?_ ?_
    · have e : ((List.range l.length).filter fun j => !(listed.setIfInBounds i true).getD j false) = ((List.range l.length).filter fun j => !listed.getD j false).filter fun j => j != i := by
        rw [List.filter_filter]
        refine List.filter_congr fun j _ => ?_
        by_cases hji : j = i
        · subst hji; have := (hset j).2 (.inr rfl); rw [this]; simp
        · rw [getD_set_ne false (Ne.symm hji)]; simp [hji]
      rw [e]
      have : (((List.range l.length).filter fun j => !listed.getD j false).filter fun j => j != i).length < ((List.range l.length).filter fun j => !listed.getD j false).length := by
        rw [List.length_filter_lt_length_iff_exists]
        exact ⟨i, List.mem_filter.2 ⟨List.mem_range.2 hil, by simpa using hDi⟩, by simp⟩
      omega
    · intro j hj k hk
      refine (hset k).2 (.inl ?_)
      rcases (hset j).1 hj with h | rfl
      · exact hcl j h k hk
      · exact hafi k hk
    · have e : (fun j => (listed.setIfInBounds i true).getD j false = true) = fun j => listed.getD j false = true ∨ j = i := by
        funext j; exact propext (hset j)
      rw [e]; exact h3

theorem Sem.draw {id : Nat} {ops : Array Oper} {l : List (DK × CI)} {anc : List (List Nat)} (hm : P.follows .mixedOrders = true) (hok : drawOK l (afOf ops) anc = true) (hsz : ops.size = l.length) (htr : ∀ i (h : i < l.length), ∃ o, ops[i]? = some o ∧ trI P n ops o = some l[i].2)
    {Q : Exit → St → Prop} (h : drawW P n l (Q .normal) S) : Sem P n (.region id ops true) Q S := by
  intro X w0 O0 a w hs fp g
  have F := drawOK_spec hok
  obtain ⟨v, rt, h1, h2, h3⟩ := draw_chain l S F.item h
  refine wp_region_any hm ?_
  have hfalse : ∀ j, (Array.replicate ops.size false).getD j false = false := fun j => by
    by_cases hj : j < ops.size <;> simp [hj]
  have hno : ∀ j, ¬ (Array.replicate ops.size false).getD j false = true := fun j h => by rw [hfalse] at h; cases h
  refine wpAny_draw F rfl hsz htr h2 (fun S' a' w' hs' fp' g' hS' => ⟨S', hs', fp', g', by rw [hS']; exact h3⟩) _ _ S a _ hs fp (g.drawn _) (by simp [hsz]) ?_ (fun i hi => (hno i hi).elim) ⟨fun s => ⟨fun j _ hj _ => (hno j hj).elim, fun _ => rfl⟩, fun k hk ha hb => ?_⟩
  · rw [hsz]
    exact Nat.le_trans (List.length_filter_le _ _) (by simp)
  rw [← h1]
  have : rt (0 + k) = rt 0 := rt_const (H := fun j => kAt l j = .h) k (fun j _ hj hjh => (hno j (ha j (by omega) hjh)).elim) (fun j _ hj hjh => (h2 j (by omega)).1 (by simpa [kAt, List.getElem?_eq_getElem (show j < l.length by omega)] using hjh))
  rw [Nat.zero_add] at this
  exact this.symm
end
end Go.Ab
