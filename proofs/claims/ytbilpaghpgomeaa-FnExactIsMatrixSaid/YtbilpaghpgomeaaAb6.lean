/- The abstract layer, part 6: stores, new variables, composite values, new slices. -/
import Derived.Test.YtbilpaghpgomeaaAb5
set_option linter.unusedSimpArgs false
set_option linter.unusedVariables false
namespace Go.Ab

/-- The list with some elements in place of others. -/
def spl {α : Type} (l : List α) (off : Nat) (xs : List α) : List α :=
  match xs with
  | [x] => l.set off x
  | xs => l.take off ++ xs ++ l.drop (off + xs.length)

theorem spl_eq {α : Type} {l : List α} {off : Nat} {xs : List α} (h : off + xs.length ≤ l.length) : spl l off xs = l.take off ++ xs ++ l.drop (off + xs.length) := by
  unfold spl
  split
  · rename_i x
    rw [List.set_eq_take_append_cons_drop, if_pos (by simp at h; omega)]
    simp
  · rfl
theorem spl_length {α : Type} {l : List α} {off : Nat} {xs : List α} (h : off + xs.length ≤ l.length) : (spl l off xs).length = l.length := by
  rw [spl_eq h]; simp; omega
theorem spl_getElem? {α : Type} {l : List α} {off : Nat} {xs : List α} (h : off + xs.length ≤ l.length) (i : Nat) :
    (spl l off xs)[i]? = if off ≤ i ∧ i < off + xs.length then xs[i - off]? else l[i]? := by
  rw [spl_eq h]
  by_cases h1 : i < off
  · rw [if_neg (by omega), List.append_assoc, List.getElem?_append_left (by simp; omega), List.getElem?_take_of_lt h1]
  · by_cases h2 : i < off + xs.length
    · rw [if_pos (by omega), List.append_assoc, List.getElem?_append_right (by simp; omega), List.getElem?_append_left (by simp; omega)]
      congr 1; simp; omega
    · rw [if_neg (by omega), List.getElem?_append_right (by simp; omega), List.getElem?_drop]
      congr 1; simp; omega
theorem spl_getD {α : Type} {l : List α} {off : Nat} {xs : List α} {d : α} (h : off + xs.length ≤ l.length) (i : Nat) :
    (spl l off xs).getD i d = if off ≤ i ∧ i < off + xs.length then xs.getD (i - off) d else l.getD i d := by
  simp only [List.getD_eq_getElem?_getD, spl_getElem? h]; split <;> rfl

theorem take_flatten_sub (fps : List (List Nat)) (k : Nat) : (fps.take k).flatten.Sublist fps.flatten := by
  have := List.sublist_append_left (fps.take k).flatten (fps.drop k).flatten
  rwa [← List.flatten_append, List.take_append_drop] at this
theorem drop_flatten_sub (fps : List (List Nat)) (k : Nat) : (fps.drop k).flatten.Sublist fps.flatten := by
  have := List.sublist_append_right (fps.take k).flatten (fps.drop k).flatten
  rwa [← List.flatten_append, List.take_append_drop] at this
theorem spl_flatten_sub {fps gs : List (List Nat)} {off : Nat} (h : off + gs.length ≤ fps.length) {b : Nat} (hb : b ∈ (spl fps off gs).flatten) : b ∈ gs.flatten ∨ b ∈ fps.flatten := by
  rw [spl_eq h, List.flatten_append, List.flatten_append, List.mem_append, List.mem_append] at hb
  rcases hb with (hb | hb) | hb
  · exact .inr ((take_flatten_sub _ _).subset hb)
  · exact .inl hb
  · exact .inr ((drop_flatten_sub _ _).subset hb)
theorem spl_flatten_nodup {fps gs : List (List Nat)} {off : Nat} (h : off + gs.length ≤ fps.length) (h1 : fps.flatten.Nodup) (h2 : gs.flatten.Nodup) (hd : ∀ b ∈ gs.flatten, b ∉ fps.flatten) :
    (spl fps off gs).flatten.Nodup := by
  have e : fps = fps.take off ++ ((fps.drop off).take gs.length ++ fps.drop (off + gs.length)) := by
    rw [← List.drop_drop, List.take_append_drop, List.take_append_drop]
  have t1 : (fps.take off).flatten.Sublist fps.flatten := take_flatten_sub _ _
  have t2 : (fps.drop (off + gs.length)).flatten.Sublist fps.flatten := drop_flatten_sub _ _
  have hcross : ∀ a ∈ (fps.take off).flatten, ∀ b ∈ (fps.drop (off + gs.length)).flatten, a ≠ b := by
    rw [e, List.flatten_append, List.nodup_append] at h1
    intro a ha b hb
    exact h1.2.2 a ha b (by rw [List.flatten_append, List.mem_append]; exact .inr hb)
  rw [spl_eq h, List.flatten_append, List.flatten_append, List.nodup_append, List.nodup_append]
  refine ⟨⟨t1.nodup h1, h2, fun a ha b hb e => hd b hb (e ▸ t1.subset ha)⟩, t2.nodup h1, fun a ha b hb e => ?_⟩
  rcases List.mem_append.1 ha with ha | ha
  · exact hcross a ha b hb e
  · exact hd a ha (e ▸ t2.subset hb)

/-- The cells of a value. -/
def compsA (a : A) : Option (List A) :=
  match a with
  | .t (.agg cs) => some (cs.map .t)
  | .agg as => some as
  | .tup _ => none
  | .t c => if c.cell then some [.t c] else none
  | a => some [a]

theorem cells_one {v : Value} (h : v.oneCell' = true) : v.cells = #[v] := by cases v <;> first | rfl | (simp [Value.oneCell'] at h)
theorem Is.one {w : World} {O : Nat → Prop} {hs : Nat → Option Value} {c : T} {v : Value} (h : Is w O hs (.t c) v) (hc : c.cell = true) : v.oneCell' = true := by
  cases h with | t h => exact (Ow.rd h).oneCell hc

theorem comps_spec {w : World} {O : Nat → Prop} {hs : Nat → Option Value} {a : A} {v : Value} {as : List A} (hh : ∀ r h, hs r = some h → h.oneCell' = true) (h : Is w O hs a v) (hc : compsA a = some as) :
    v.cells.size = as.length ∧ (∀ i (hi : i < as.length), Is w O hs as[i] (v.cells.getD i undef)) := by
  have single : ∀ (b : A) (u : Value), Is w O hs b u → u.oneCell' = true → u.cells.size = [b].length ∧ ∀ i (hi : i < [b].length), Is w O hs [b][i] (u.cells.getD i undef) := by
    intro b u hb hu
    rw [cells_one hu]
    refine ⟨rfl, fun i hi => ?_⟩
    have : i = 0 := by simpa using hi
    subst this; exact hb
  unfold compsA at hc
  split at hc
  · rename_i cs
    cases hc
    obtain ⟨vs, rfl, hl, hr⟩ := h.tagg_inv
    exact ⟨by simp [Value.cells, hl], fun i hi => by simpa [Value.cells, Array.getD_eq_getD_getElem?, List.getD_eq_getElem?_getD] using hr i (by simpa using hi)⟩
  · rename_i l
    cases hc
    obtain ⟨vs, rfl, hl, hr⟩ := h.agg_inv
    exact ⟨by simp [Value.cells, hl], fun i hi => by simpa [Value.cells, Array.getD_eq_getD_getElem?, List.getD_eq_getElem?_getD] using hr i hi⟩
  · cases hc
  · rename_i c
    split at hc
    · rename_i hcc; cases hc; exact single _ _ h (h.one hcc)
    · cases hc
  · rename_i h1 h2 h3 h4
    cases hc
    refine single _ _ h ?_
    cases h with
    | t h => exact (h4 _ rfl).elim
    | own hr => exact hh _ _ hr
    | sub _ _ => rfl
    | subZ _ => rfl
    | subNil _ => rfl
    | ptrS _ => rfl
    | ptrP _ => rfl
    | agg => exact (h2 _ rfl).elim
    | tup => exact (h3 _ rfl).elim
    | fn => rfl

/-- The place that an owned pointer points to. -/
def addrA (S : St) (x : A) : Option (Nat × Nat) :=
  match x with
  | .ptr r off => some (r, off)
  | .own r => (match S.roots r with | .live (.box _) _ => some (r, 0) | _ => none)
  | _ => none

/-- Cells of a root are written. -/
def storeK (r off z : Nat) (K : St → Prop) (ts : List T) (S : St) : Prop :=
  match (S.roots r).cells with
  | some (l, lk) => 0 < z ∧ off + z ≤ l.length ∧ K { S with roots := upd S.roots r ((S.roots r).with (spl l off ts) (lk.filter fun p => p.1 < off || off + z ≤ p.1)) }
  | none => False

def storeW (P : Program) (t : TypeId) (x v : A) (S : St) (K : St → Prop) : Prop :=
  match addrA S x, tySize P t, compsA v with
  | some (r, off), some z, some as => as.length = z ∧ giveL S as (storeK r off z K)
  | _, _, _ => False

section
variable {P : Program} {n : Nat} {S : St} {K : St → Prop} {X : Nat → Prop} {w0 : World} {O0 : Fr} {a : Act} {w : World} {hs : Nat → Option Value} {fp : Nat → List Nat}

theorem Root.with_rooty {r : Root} {l l' : List T} {lk lk' : List (Nat × Nat)} (h : r.cells = some (l, lk)) : ∃ t, r.with l' lk' = .live t lk' ∧ t.rooty = true := by
  rcases Root.cells_spec h with ⟨s, rfl⟩ | rfl
  · exact ⟨_, rfl, rfl⟩
  · exact ⟨_, rfl, rfl⟩

theorem opW_storeAt {o : Oper} {t z : TypeId} {x v : Operand} (ho : o.op = .store t x v) (hz : tySize P t = some z) {as : List A} (hc : compsA (S.ev v) = some as) (hl : as.length = z) {r off : Nat}
    (hx : ∀ X w0 O0 a w hs fp, Good X w0 O0 n S a w hs fp → ∀ b x', hs r = some x' → ((∃ m c, x' = .slice (some ⟨b, 0, none⟩) m c) ∨ x' = .pointer (some ⟨b, 0, none⟩)) → a.eval x = .pointer (some ⟨b, off, none⟩))
    (k : giveL S as (storeK r off z K)) (hdst : o.dst = none) : OpW P n o S K := by
  intro X w0 O0 a w hs fp g Q
  obtain ⟨hcs, hci⟩ := comps_spec g.hdr (g.ev v) hc
  obtain ⟨ts, S2, fp2, gs, I, hK, hlt, hlg, hos, hcell, hgn, hgs, _⟩ := giveL_spec g as (a.eval v).cells.toList S fp _ (Inter.refl S fp) (by simpa using hcs)
    (fun i h => by simpa [Array.getD_eq_getD_getElem?, List.getD_eq_getElem?_getD] using hci i h) k
  unfold storeK at hK
  split at hK
  · rename_i l lk hr2
    obtain ⟨hz0, hlen, hK⟩ := hK
    -- the root that is written is still what it was
    have hsame : S2.roots r = S.roots r ∧ fp2 r = fp r := by
      rcases I.root r with h | ⟨h, _⟩
      · exact h
      · rw [h] at hr2; simp [Root.cells] at hr2
    rw [hsame.1] at hr2 hK
    obtain ⟨b, y, cs, e, fps, hy, hyb, hb, hle, hf, hr, hfp, hlk, hmk⟩ := g.block hr2 (show off < l.length by omega)
    have hv := hx X w0 O0 a w hs fp g b y hy hyb
    have hlv : (a.eval v).cells.toList.length = z := by rw [Array.length_toList, hcs, hl]
    have hone : ∀ u ∈ (a.eval v).cells.toList, u.oneCell' = true := by
      intro u hu
      obtain ⟨i, hi, rfl⟩ := List.mem_iff_getElem.1 hu
      have h1 := hos i (by omega)
      have h2 := h1.oneCell (hcell _ (List.getElem_mem _))
      rwa [List.getD_eq_getElem?_getD, List.getElem?_eq_getElem hi] at h2
    have hst := run_storeCells_at P b off e (a.eval v).cells.toList 0 cs w hb (by omega) hone
    have hsize : (a.eval v).cells.size = z := by rw [hcs, hl]
    have hrun : (execOp a.eval o).run P w = .ok .skip (w.setRow b (cs.toList.take (off + 0) ++ (a.eval v).cells.toList ++ cs.toList.drop (off + 0 + (a.eval v).cells.toList.length)).toArray) := by
      have hzr := tySize_run hz w
      simp only [execOp, ho, Instr.storeAt, hv, Instr.sureAddr, storeVar, Sem.run_bind, Sem.run_pure, Result.andThen_ok, hzr, hsize, ne_eq, not_true_eq_false, if_false]
      rw [hst]
      rfl
    have hspl : cs.toList.take (off + 0) ++ (a.eval v).cells.toList ++ cs.toList.drop (off + 0 + (a.eval v).cells.toList.length) = spl cs.toList off (a.eval v).cells.toList := by
      rw [spl_eq (by rw [hlv, Array.length_toList]; omega)]; rfl
    rw [hspl] at hrun
    have hw1 : (w.setRow b (spl cs.toList off (a.eval v).cells.toList).toArray).heap[b]? = some (.cells (spl cs.toList off (a.eval v).cells.toList).toArray e (0, 0)) := setRow_heap w b cs _ e _ hb
    have hw2 : ∀ k, k ≠ b → (w.setRow b (spl cs.toList off (a.eval v).cells.toList).toArray).heap[k]? = w.heap[k]? := fun k hk => setRow_other w b k _ hk
    have hnd : (b :: fps.flatten).Nodup := by rw [← hfp]; exact g.nodup r
    have hltz : ts.length = z := by omega
    have hlen1 : off + ts.length ≤ l.length := by omega
    have hlen2 : off + gs.length ≤ fps.length := by omega
    have hlen3 : off + (a.eval v).cells.toList.length ≤ cs.toList.length := by rw [hlv, Array.length_toList]; omega
    have hgr : ∀ b' ∈ gs.flatten, b' ∉ fp r := by
      intro b' hb' hr'
      obtain ⟨q, hq, hq0⟩ := hgs b' hb'
      have := g.disj q r b' hq hr'
      subst this
      rw [hsame.2, hfp] at hq0; cases hq0
    obtain ⟨t', ht', hrt⟩ := Root.with_rooty (l' := spl l off ts) (lk' := lk.filter fun p => p.1 < off || off + z ≤ p.1) hr2
    rw [ht'] at hK
    have hRoot := fun O' (hO : ∀ b, ¬ Ob X fp b → b < w.heap.size → ¬ O' b) => hmk (w.setRow b (spl cs.toList off (a.eval v).cells.toList).toArray) O' hs _ (spl l off ts) (spl fps off gs) (lk.filter fun p => p.1 < off || off + z ≤ p.1) hw1
      (by rw [List.size_toArray, spl_length hlen3, Array.length_toList]) (spl_length hlen1) (by rw [spl_length hlen2, hf]) (fun i hi => by
        have hkeep : Keeps (fun b => ¬ Ob X fp b) w (w.setRow b (spl cs.toList off (a.eval v).cells.toList).toArray) := fun b' cs' e' fz' hn hb' => by
          rw [hw2 b' (fun h => hn (.inr ⟨r, by rw [hfp, h]; simp⟩))]; exact hb'
        have key : ∀ (t : T) (u : Value) (f : List Nat), Ow w (Ob X fp) t u f → b ∉ f → Ow (w.setRow b (spl cs.toList off (a.eval v).cells.toList).toArray) O' t u f := fun t u f h hbf =>
          h.mono hkeep hO fun b' cs' e' fz' hb' hc' => by rw [hw2 b' (fun h => hbf (h ▸ hb'))]; exact hc'
        have hil : i < l.length := by rwa [spl_length hlen1] at hi
        have e1 : (spl l off ts)[i] = if off ≤ i ∧ i < off + ts.length then ts.getD (i - off) .any else l.getD i .any := by
          have := spl_getD (d := T.any) hlen1 i
          rwa [List.getD_eq_getElem?_getD, List.getElem?_eq_getElem hi, Option.getD_some] at this
        have e2 : (spl cs.toList off (a.eval v).cells.toList).toArray.getD i undef = if off ≤ i ∧ i < off + ts.length then (a.eval v).cells.toList.getD (i - off) undef else cs.getD i undef := by
          have := spl_getD (d := undef) hlen3 i
          rw [hlv, ← hltz] at this
          simpa [Array.getD_eq_getD_getElem?, List.getD_eq_getElem?_getD] using this
        have e3 : (spl fps off gs).getD i [] = if off ≤ i ∧ i < off + ts.length then gs.getD (i - off) [] else fps.getD i [] := by
          have := spl_getD (d := ([] : List Nat)) hlen2 i
          rwa [show gs.length = ts.length by omega] at this
        rw [e1, e2, e3]
        by_cases hin : off ≤ i ∧ i < off + ts.length
        · simp only [if_pos hin]
          have hti : i - off < ts.length := by omega
          rw [List.getD_eq_getElem?_getD (l := ts), List.getElem?_eq_getElem hti, Option.getD_some]
          exact key _ _ _ (hos (i - off) hti) fun hm => hgr b (mem_flatten_getD hm) (by rw [hfp]; simp)
        · simp only [if_neg hin]
          rw [List.getD_eq_getElem?_getD (l := l), List.getElem?_eq_getElem hil, Option.getD_some]
          exact key _ _ _ (hr i hil) fun hm => (List.nodup_cons.1 hnd).1 (mem_flatten_getD hm)) (fun p hp => by
        obtain ⟨hp1, hp2⟩ := List.mem_filter.1 hp
        obtain ⟨u, hu, hud⟩ := hlk p hp1
        refine ⟨u, ?_, hud⟩
        have hp2' : p.1 < off ∨ off + z ≤ p.1 := by simpa using hp2
        simp only [World.cell?, hw1, hb] at hu ⊢
        have := spl_getElem? hlen3 p.1
        rw [if_neg (by rw [hlv]; omega)] at this
        simpa [this] using hu)
    have g2 := g.lay I r t' (lk.filter fun p => p.1 < off || off + z ≤ p.1) y (b :: (spl fps off gs).flatten) (w.setRow b (spl cs.toList off (a.eval v).cells.toList).toArray) (.inr hy) hrt rfl rfl rfl (by simp)
      (fun b' hb' hq => hw2 b' fun h => (hq r (by rw [hfp, h]; simp)).1 rfl)
      (List.nodup_cons.2 ⟨fun hm => by
        rcases spl_flatten_sub hlen2 hm with h | h
        · exact hgr b h (by rw [hfp]; simp)
        · exact (List.nodup_cons.1 hnd).1 h, spl_flatten_nodup hlen2 (List.nodup_cons.1 hnd).2 hgn fun b' h1 h2 => hgr b' h1 (by rw [hfp]; exact List.mem_cons_of_mem _ h2)⟩)
      (fun b' hb' => by
        left
        rcases List.mem_cons.1 hb' with rfl | hb'
        · exact ⟨r, by rw [hfp]; simp, .inl rfl⟩
        · rcases spl_flatten_sub hlen2 hb' with h | h
          · obtain ⟨q, h1, h2⟩ := hgs b' h; exact ⟨q, h1, .inr h2⟩
          · exact ⟨r, by rw [hfp]; exact List.mem_cons_of_mem _ h, .inl rfl⟩)
      (fun O' hO => by
        have := hRoot O' hO
        rw [ht'] at this
        obtain ⟨y', hy', ho', _⟩ := this
        cases hy'; exact ho')
      (fun p hp => by
        have := hRoot (fun b => Ob X fp b ∨ w.heap.size ≤ b) (fun b' h1 h2 h3 => h3.elim h1 (fun h3 => by omega))
        rw [ht'] at this
        obtain ⟨y', hy', _, hl'⟩ := this
        cases hy'; exact hl' p hp)
    unfold Oper.wp
    rw [hrun, Oper.upon_skip, hdst]
    exact ⟨_, _, _, g2, hK⟩
  · exact hK.elim

theorem Good.addr (g : Good X w0 O0 n S a w hs fp) {x : A} {v : Value} {r off : Nat} (hx : addrA S x = some (r, off)) (h : Is w (Ob X fp) hs x v) (b : Nat) (y : Value) (hy : hs r = some y)
    (hyb : (∃ m c, y = .slice (some ⟨b, 0, none⟩) m c) ∨ y = .pointer (some ⟨b, 0, none⟩)) : v = .pointer (some ⟨b, off, none⟩) := by
  unfold addrA at hx
  split at hx
  · cases hx; exact g.ptr_block hy hyb h
  · rename_i q
    split at hx
    · rename_i l lk hq
      cases hx
      obtain ⟨b', cs, e, fps, hb', _⟩ := g.box hq
      have h1 := h.own_inv
      rw [hy] at h1 hb'
      cases h1
      cases hb'
      rcases hyb with ⟨m, c, h⟩ | h <;> cases h
      rfl
    · cases hx
  · cases hx

theorem opW_store {o : Oper} {t : TypeId} {x v : Operand} (ho : o.op = .store t x v) (hdst : o.dst = none) (k : storeW P t (S.ev x) (S.ev v) S K) : OpW P n o S K := by
  unfold storeW at k
  split at k
  · rename_i r off z as hx hz hc
    exact opW_storeAt ho hz hc k.1 (fun X w0 O0 a w hs fp g b y hy hyb => g.addr hx (g.ev x) b y hy hyb) k.2 hdst
  · exact k.elim
end
end Go.Ab
