/- The abstract layer, part 7: new variables, composite values, new slices, appends, conversions. -/
import Derived.Test.YtbilpaghpgomeaaAb6
set_option linter.unusedSimpArgs false
set_option linter.unusedVariables false
namespace Go.Ab

/-- The cells of a type's zero value. -/
def tyZero (P : Program) (t : TypeId) : Option (List T) := ((P.info? t).bind (·.zero)).map fun z => z.cells.toList.map T.v
theorem tyZero_spec {P : Program} {t : TypeId} {zs : List T} (h : tyZero P t = some zs) : ∃ i z, P.info? t = some i ∧ i.zero = some z ∧ zs = z.cells.toList.map T.v := by
  unfold tyZero at h
  cases hi : P.info? t with
  | none => simp [hi] at h
  | some i =>
    cases hz : i.zero with
    | none => simp [hi, hz] at h
    | some z => simp [hi, hz] at h; exact ⟨i, z, rfl, hz, h.symm⟩

/-- A root is laid at d. -/
def newK (d : Nat) (mk : List T → T) (K : St → Prop) (ts : List T) (S : St) : Prop :=
  S.roots d = .free ∧ K { env := upd S.env d (.own d), roots := upd S.roots d (.live (mk ts) []) }

theorem newK_apply (d : Nat) (mk : List T → T) (K : St → Prop) (ts : List T) (S : St) :
    newK d mk K ts S = (S.roots d = .free ∧ K { env := upd S.env d (.own d), roots := upd S.roots d (.live (mk ts) []) }) := rfl

def allocW (P : Program) (t : TypeId) (d : Nat) (S : St) (K : St → Prop) : Prop :=
  match tyZero P t with
  | some zs => newK d .box K zs S
  | none => False

def boxW (x : A) (d : Nat) (S : St) (K : St → Prop) : Prop :=
  match compsA x with
  | some as => giveL S as (newK d .box K)
  | none => False

section
variable {P : Program} {n : Nat} {S : St} {K : St → Prop} {X : Nat → Prop} {w0 : World} {O0 : Fr} {a : Act} {w : World} {hs : Nat → Option Value} {fp : Nat → List Nat}

/-- A new row of cells becomes a root: what is given fills its first cells. -/
theorem Good.newRow (g : Good X w0 O0 n S a w hs fp) {S2 : St} {fp2 : Nat → List Nat} {ts : List T} {vs : List Value} {gs : List (List Nat)} (I : Inter S fp S2 fp2) (hlt : gs.length = ts.length)
    (hos : ∀ i (h : i < ts.length), Ow w (Ob X fp) ts[i] (vs.getD i undef) (gs.getD i [])) (hgn : gs.flatten.Nodup) (hgs : ∀ b ∈ gs.flatten, ∃ q, b ∈ fp q ∧ fp2 q = [])
    {d : Nat} (hd : S2.roots d = .free) (hdn : d < n) (cs : Array Value) (e : TypeId) (hcs : ∀ i, i < ts.length → cs.getD i undef = vs.getD i undef) (t : T) (x : Value) (hrt : t.rooty = true)
    (w' : World) (hw : w'.heap = w.heap.push (.cells cs e)) (hwo : w'.os = w.os) (hwt : w'.tape = w.tape) (hwp : w'.output = w.output)
    (hmk : ∀ (w' : World) (O' : Nat → Prop), w'.heap[w.heap.size]? = some (.cells cs e (0, 0)) → (∀ i (h : i < ts.length), Ow w' O' ts[i] (cs.getD i undef) (gs.getD i [])) → Ow w' O' t x (w.heap.size :: gs.flatten)) :
    Good X w0 O0 n { env := upd S2.env d (.own d), roots := upd S2.roots d (.live t []) } (a.put (some d) x) w' (upd hs d (some x)) (upd fp2 d (w.heap.size :: gs.flatten)) := by
  have hnone : hs d = none := by
    have := g.root d
    rcases I.root d with ⟨h1, _⟩ | ⟨h1, _⟩ <;> rw [h1] at hd
    · rw [hd] at this; exact this.1
    · cases hd
  have hold : ∀ b, b < w.heap.size → w'.heap[b]? = w.heap[b]? := fun b hb => by rw [hw, Array.getElem?_push, if_neg (by omega)]
  have hnew : w'.heap[w.heap.size]? = some (.cells cs e (0, 0)) := by rw [hw]; simp
  have hlt' : ∀ b ∈ gs.flatten, b < w.heap.size := fun b hb => by obtain ⟨q, hq, _⟩ := hgs b hb; exact g.lt hq
  have g2 := g.lay I d t [] x (w.heap.size :: gs.flatten) w' (.inl ⟨hnone, by have := g.small; omega⟩) hrt hwo hwt hwp (by rw [hw]; simp) (fun b hb _ => hold b hb)
    (List.nodup_cons.2 ⟨fun h => by have := hlt' _ h; omega, hgn⟩)
    (fun b hb => by
      rcases List.mem_cons.1 hb with rfl | hb
      · exact .inr (Nat.le_refl _)
      · obtain ⟨q, h1, h2⟩ := hgs b hb; exact .inl ⟨q, h1, .inr h2⟩)
    (fun O' hO => hmk w' O' hnew fun i hi => by
      rw [hcs i hi]
      exact (hos i hi).mono (fun b cs' e' fz' _ hb => by rw [hold b (Array.getElem?_eq_some_iff.1 hb).1]; exact hb) hO
        (fun b cs' e' fz' _ hb => by rw [hold b (Array.getElem?_eq_some_iff.1 hb).1]; exact hb))
    (fun p hp => by simp at hp)
  exact g2.put hdn (.own (upd_self _ _ _))

theorem Inter.of_give {S2 : St} {fp2 : Nat → List Nat} {gs : List (List Nat)} (h : ∀ b ∈ gs.flatten, ∃ q, b ∈ fp q ∧ fp2 q = []) : ∀ b ∈ gs.flatten, ∃ q, b ∈ fp q ∧ fp2 q = [] := h

theorem opW_alloc {o : Oper} {t : TypeId} {d : Nat} (ho : o.op = .alloc t) (hdst : o.dst = some d) (hd : d < n) (k : allocW P t d S K) : OpW P n o S K := by
  unfold allocW at k
  split at k
  · rename_i zs hz
    obtain ⟨hfree, hK⟩ := k
    intro X w0 O0 a w hs fp g Q
    obtain ⟨i, z, hi, hiz, rfl⟩ := tyZero_spec hz
    have hrun : (execOp a.eval o).run P w = .ok (.value (.pointer (some ⟨w.heap.size, 0, none⟩))) (w.alloc (.cells z.cells t)) := by
      simp [execOp, ho, Instr.alloc, zeroValue, typeInfo, hi, hiz, newVar, newRow]
    have g2 := g.newRow (Inter.refl S fp) (ts := z.cells.toList.map T.v) (vs := z.cells.toList) (gs := List.replicate z.cells.size []) (by simp) (fun i h => by
        simp only [List.getElem_map]
        have h' : i < z.cells.toList.length := by simpa using h
        rw [List.getD_eq_getElem?_getD, List.getElem?_eq_getElem h', Option.getD_some, List.getD_eq_getElem?_getD, List.getElem?_replicate, if_pos (by simpa using h')]
        exact .rd (.v _)) (by simp) (by simp) hfree hd z.cells t (fun i h => by simp [Array.getD_eq_getD_getElem?, List.getD_eq_getElem?_getD]) (.box (z.cells.toList.map T.v)) (.pointer (some ⟨w.heap.size, 0, none⟩)) rfl
      (w.alloc (.cells z.cells t)) rfl rfl rfl rfl
      (fun w' O' hb hr => .box _ _ _ _ _ hb (by simp) (by simp) hr)
    unfold Oper.wp
    rw [hrun, Oper.upon_value, hdst]
    exact ⟨_, _, _, g2, hK⟩
  · exact k.elim

theorem opW_box {o : Oper} {t : TypeId} {d : Nat} {x : Operand} (ho : o.op = .box t x) (hdst : o.dst = some d) (hd : d < n) (k : boxW (S.ev x) d S K) : OpW P n o S K := by
  unfold boxW at k
  split at k
  · rename_i as hc
    intro X w0 O0 a w hs fp g Q
    obtain ⟨hcs, hci⟩ := comps_spec g.hdr (g.ev x) hc
    obtain ⟨ts, S2, fp2, gs, I, hK, hlt, hlg, hos, hcell, hgn, hgs, _⟩ := giveL_spec g as (a.eval x).cells.toList S fp _ (Inter.refl S fp) (by simpa using hcs)
      (fun i h => by simpa [Array.getD_eq_getD_getElem?, List.getD_eq_getElem?_getD] using hci i h) k
    obtain ⟨hfree, hK⟩ := hK
    have hrun : (execOp a.eval o).run P w = .ok (.value (.pointer (some ⟨w.heap.size, 0, none⟩))) (w.alloc (.cells (a.eval x).cells t)) := by
      simp [execOp, ho, Instr.box, newVar, newRow]
    have g2 := g.newRow I (by omega) hos hgn hgs hfree hd (a.eval x).cells t (fun i h => by simp [Array.getD_eq_getD_getElem?, List.getD_eq_getElem?_getD]) (.box ts) (.pointer (some ⟨w.heap.size, 0, none⟩)) rfl
      (w.alloc (.cells (a.eval x).cells t)) rfl rfl rfl rfl
      (fun w' O' hb hr => .box _ _ _ _ _ hb (by omega) (by omega) hr)
    unfold Oper.wp
    rw [hrun, Oper.upon_value, hdst]
    exact ⟨_, _, _, g2, hK⟩
  · exact k.elim
end

-- composite values
theorem foldl_splice : ∀ (vs : List Value) (k off : Nat) (cs : Array Value) (i : Nat),
    ((vs.zipIdx k).foldl (fun cs (p : Value × Nat) => cs.setIfInBounds (off + p.2) p.1) cs)[i]? = if off + k ≤ i ∧ i < off + k + vs.length ∧ i < cs.size then vs[i - (off + k)]? else cs[i]?
  | [], k, off, cs, i => by simp; omega
  | v :: vs, k, off, cs, i => by
    simp only [List.zipIdx_cons, List.foldl_cons]
    rw [foldl_splice vs (k + 1) off _ i]
    simp only [Array.size_setIfInBounds, List.length_cons]
    by_cases h1 : off + (k + 1) ≤ i ∧ i < off + (k + 1) + vs.length ∧ i < cs.size
    · rw [if_pos h1, if_pos (by omega), show i - (off + k) = (i - (off + (k + 1))) + 1 by omega, List.getElem?_cons_succ]
    · rw [if_neg h1, Array.getElem?_setIfInBounds]
      by_cases h2 : off + k = i
      · subst h2
        by_cases h3 : off + k < cs.size
        · rw [if_pos rfl, if_pos h3, if_pos (by omega)]; simp
        · rw [if_pos rfl, if_neg h3, if_neg (by omega)]; simp; omega
      · rw [if_neg h2, if_neg (by omega)]
theorem size_splice : ∀ (vs : List Value) (k off : Nat) (cs : Array Value), ((vs.zipIdx k).foldl (fun cs (p : Value × Nat) => cs.setIfInBounds (off + p.2) p.1) cs).size = cs.size
  | [], k, off, cs => rfl
  | v :: vs, k, off, cs => by simp only [List.zipIdx_cons, List.foldl_cons]; rw [size_splice vs (k + 1)]; simp

/-- Parts laid into a row of cells. -/
def fillA (place : Nat → Option (Nat × Nat)) : List A → List (Nat × A) → Option (List A)
  | cells, [] => some cells
  | cells, (i, x) :: rest =>
    match place i, compsA x with
    | some (off, z), some cs => if cs.length = z ∧ off + z ≤ cells.length then fillA place (spl cells off cs) rest else none
    | _, _ => none

theorem fill_spec {w : World} {O : Nat → Prop} {hs : Nat → Option Value} (hh : ∀ r h, hs r = some h → h.oneCell' = true) {place : Nat → Option (Nat × Nat)} :
    ∀ (ps : List (Nat × A)) (vals : List (Nat × Value)) (as as' : List A) (cells : Array Value), ps.map (·.1) = vals.map (·.1) → (∀ i (h : i < ps.length), Is w O hs ps[i].2 ((vals[i]?.map (·.2)).getD undef)) →
    cells.size = as.length → (∀ i (h : i < as.length), Is w O hs as[i] (cells.getD i undef)) → fillA place as ps = some as' →
    ∃ cells', Instr.fill place cells vals = some cells' ∧ cells'.size = as'.length ∧ ∀ i (h : i < as'.length), Is w O hs as'[i] (cells'.getD i undef)
  | [], [], as, as', cells, _, _, hs1, hi1, hf => by simp [fillA] at hf; subst hf; exact ⟨cells, rfl, hs1, hi1⟩
  | [], v :: vs, as, as', cells, hk, _, _, _, _ => by simp at hk
  | p :: ps, [], as, as', cells, hk, _, _, _, _ => by simp at hk
  | (k, x) :: ps, (k', v) :: vs, as, as', cells, hk, hp, hs1, hi1, hf => by
    simp only [List.map_cons, List.cons.injEq] at hk
    obtain ⟨rfl, hk⟩ := hk
    have hx : Is w O hs x v := by have := hp 0 (by simp); simpa only [List.getElem_cons_zero, List.getElem?_cons_zero, Option.map_some, Option.getD_some] using this
    simp only [fillA] at hf
    split at hf
    · rename_i off z cs hpl hc
      split at hf
      · rename_i hcond
        obtain ⟨hcz, hle⟩ := hcond
        obtain ⟨hvs, hvi⟩ := comps_spec hh hx hc
        have hlen : off + cs.length ≤ as.length := by omega
        have hstep : ∀ i (h : i < (spl as off cs).length), Is w O hs (spl as off cs)[i] ((v.cells.zipIdx.foldl (fun cs (c, j) => cs.setIfInBounds (off + j) c) cells).getD i undef) := by
          intro i hi
          rw [spl_length hlen] at hi
          have e1 := spl_getElem? hlen i
          rw [List.getElem?_eq_getElem (by rw [spl_length hlen]; exact hi)] at e1
          have e2 : (v.cells.zipIdx.foldl (fun cs (c, j) => cs.setIfInBounds (off + j) c) cells)[i]? = if off ≤ i ∧ i < off + cs.length then v.cells.toList[i - off]? else cells[i]? := by
            have := foldl_splice v.cells.toList 0 off cells i
            rw [← Array.foldl_toList, Array.toList_zipIdx]
            refine Eq.trans this ?_
            have : v.cells.toList.length = cs.length := by simpa using hvs
            rw [this]
            by_cases h : off ≤ i ∧ i < off + cs.length
            · rw [if_pos (by omega), if_pos h]; rfl
            · rw [if_neg (by omega), if_neg h]
          rw [Array.getD_eq_getD_getElem?, e2]
          by_cases h : off ≤ i ∧ i < off + cs.length
          · rw [if_pos h] at e1 ⊢
            have hj : i - off < cs.length := by omega
            rw [List.getElem?_eq_getElem hj, Option.some.injEq] at e1
            rw [e1]
            simpa [Array.getD_eq_getD_getElem?] using hvi (i - off) hj
          · rw [if_neg h] at e1 ⊢
            rw [List.getElem?_eq_getElem hi, Option.some.injEq] at e1
            rw [e1]
            simpa [Array.getD_eq_getD_getElem?] using hi1 i hi
        obtain ⟨cells', hc1, hc2, hc3⟩ := fill_spec hh ps vs (spl as off cs) as' (v.cells.zipIdx.foldl (fun cs (c, j) => cs.setIfInBounds (off + j) c) cells) hk
          (fun i h => by have := hp (i + 1) (by simpa using h); simpa only [List.getElem_cons_succ, List.getElem?_cons_succ] using this)
          (by rw [spl_length hlen, ← Array.foldl_toList, Array.toList_zipIdx]; exact (size_splice v.cells.toList 0 off cells).trans hs1) hstep hf
        refine ⟨cells', ?_, hc2, hc3⟩
        rw [Instr.fill, hpl]
        simp only
        rw [if_neg (by simp; omega)]
        exact hc1
      · cases hf
    · cases hf
end Go.Ab
