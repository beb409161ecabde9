/- The abstract layer, part 8: composites, new slices, appends, conversions, parts of slices. -/
import Derived.Test.YtbilpaghpgomeaaAb7
set_option linter.unusedSimpArgs false
set_option linter.unusedVariables false
namespace Go.Ab

/-- The places of a struct's fields. -/
def tyFields (P : Program) (t : TypeId) : Option (List (Nat × Nat)) :=
  match P.underlying t with
  | some (.struct fs) => fs.toList.mapM fun f => (P.info? f.type).map fun i => (f.offset, i.size)
  | _ => none
/-- The cells of an array's element. -/
def tyArr (P : Program) (t : TypeId) : Option Nat :=
  match P.underlying t with
  | some (.array _ e) => (P.info? e).map (·.size)
  | _ => none

def tyPlace (P : Program) (t : TypeId) (i : Nat) : Option (Nat × Nat) :=
  match tyFields P t with
  | some ps => ps[i]?
  | none => (tyArr P t).map fun z => (i * z, z)

def buildW (P : Program) (t : TypeId) (parts : List (Nat × A)) (K : A → Prop) : Prop :=
  match tyZero P t with
  | some zs => ((tyFields P t).isSome = true ∨ (tyArr P t).isSome = true) ∧ (match fillA (tyPlace P t) (zs.map .t) parts with
    | some as => K (.agg as)
    | none => False)
  | none => False

section
variable {P : Program} {n : Nat} {S : St} {K : St → Prop} {X : Nat → Prop} {w0 : World} {O0 : Fr} {a : Act} {w : World} {hs : Nat → Option Value} {fp : Nat → List Nat}

theorem fill_size {place : Nat → Option (Nat × Nat)} : ∀ {vals : List (Nat × Value)} {cells cells' : Array Value}, Instr.fill place cells vals = some cells' → cells'.size = cells.size
  | [], cells, cells', h => by simp [Instr.fill] at h; rw [h]
  | (i, v) :: rest, cells, cells', h => by
    rw [Instr.fill] at h
    split at h
    · cases h
    · split at h
      · cases h
      · have := fill_size h
        rw [this, ← Array.foldl_toList, Array.toList_zipIdx]
        exact size_splice v.cells.toList 0 _ cells

theorem opW_build {o : Oper} {t : TypeId} {d : Nat} {parts : Array (Nat × Operand)} (ho : o.op = .build t parts) (hdst : o.dst = some d) (hd : d < n)
    (k : buildW P t (parts.toList.map fun p => (p.1, S.ev p.2)) (putK S d K)) : OpW P n o S K := by
  unfold buildW at k
  split at k
  · rename_i zs hz
    obtain ⟨hkind, k⟩ := k
    split at k
    · rename_i as hf
      obtain ⟨i0, z, hi0, hiz, rfl⟩ := tyZero_spec hz
      refine OpW.val (x := .agg as) hdst hd (fun X w0 O0 a w hs fp g => ?_) k
      have hval : parts.toList.map (fun p => (p.1, a.eval p.2)) = (parts.map fun (i, x) => (i, a.eval x)).toList := by simp
      obtain ⟨cells', hc1, hc2, hc3⟩ := fill_spec g.hdr (place := tyPlace P t) (parts.toList.map fun p => (p.1, S.ev p.2)) (parts.toList.map fun p => (p.1, a.eval p.2)) _ as z.cells (by simp)
        (fun i hi => by
          have hi' : i < parts.toList.length := by simpa using hi
          simp only [List.getElem_map, List.getElem?_map, List.getElem?_eq_getElem hi', Option.map_some, Option.getD_some]
          exact g.ev _) (by simp) (fun i hi => by
          have hi' : i < z.cells.size := by simpa using hi
          simp only [List.getElem_map]
          have : z.cells.getD i undef = z.cells.toList[i]'(by simpa using hi') := by simp [Array.getD_eq_getD_getElem?, hi']
          rw [this]; exact .t (.v _)) hf
      have hagg : Is w (Ob X fp) hs (.agg as) (.agg cells') := by
        have := Is.agg (w := w) (O := Ob X fp) (hs := hs) (l := as) (vs := cells'.toList) (by simp [hc2]) (fun i hi => by simpa [Array.getD_eq_getD_getElem?, List.getD_eq_getElem?_getD] using hc3 i hi)
        simpa using this
      refine ⟨.agg cells', ?_, hagg⟩
      have hbuilt : P.built t (parts.map fun (i, x) => (i, a.eval x)).toList = some cells' := by
        rw [← hval, ← hc1]
        unfold Program.built
        unfold tyFields tyArr at hkind
        cases hu : P.underlying t with
        | none => simp [hu] at hkind
        | some dd =>
          cases dd with
          | array m e =>
            simp only [hu, Option.isSome_none, Bool.false_eq_true, false_or] at hkind
            cases hie : P.info? e with
            | none => simp [hie] at hkind
            | some ie =>
              simp only [hi0, hiz, hie]
              congr 1
              funext i
              simp [tyPlace, tyFields, tyArr, hu, hie]
          | struct fs =>
            simp only [hu, Option.isSome_none, Bool.false_eq_true, or_false] at hkind
            cases hp : fs.toList.mapM (fun f => (P.info? f.type).map fun i => (f.offset, i.size)) with
            | none => rw [hp] at hkind; simp at hkind
            | some places =>
              simp only [hi0, hiz, hp]
              congr 1
              funext i
              simp only [tyPlace, tyFields, hu, hp]
              simp
          | _ => simp [hu] at hkind
      simp [execOp, ho, run_build w t _ cells' hbuilt]
    · exact k.elim
  · exact k.elim

/-- A slice written out: all its cells are given. -/
def buildSliceW (P : Program) (t : TypeId) (len d : Nat) (parts : List (Nat × A)) (S : St) (K : St → Prop) : Prop :=
  match tyEs P t with
  | some z => len * z ≤ 16777216 ∧ 0 < z ∧ (match fillA (fun i => some (i * z, z)) (List.replicate (len * z) (.t .any)) parts with
    | some as => giveL S as (newK d (.arr z) K)
    | none => False)
  | none => False

theorem opW_buildSlice {o : Oper} {t : TypeId} {d len : Nat} {parts : Array (Nat × Operand)} (ho : o.op = .buildSlice t len parts) (hdst : o.dst = some d) (hd : d < n) {e : TypeId} (he : tyElem P t = some e) (hze : (tyZero P e).isSome = true)
    (k : buildSliceW P t len d (parts.toList.map fun p => (p.1, S.ev p.2)) S K) : OpW P n o S K := by
  unfold buildSliceW at k
  split at k
  · rename_i z hz
    obtain ⟨hsmall, hz0, k⟩ := k
    split at k
    · rename_i as hf
      obtain ⟨e', ie, hu, hi, hiz⟩ := tyEs_spec hz
      have hee : e' = e := by have := tyElem_spec he; rw [hu] at this; cases this; rfl
      subst hee
      intro X w0 O0 a w hs fp g Q
      obtain ⟨zs, hzs⟩ := Option.isSome_iff_exists.1 hze
      obtain ⟨i1, zv, hi1, hizv, _⟩ := tyZero_spec hzs
      have : ie = i1 := by rw [hi] at hi1; cases hi1; rfl
      subst this
      let zero : Array Value := if len * z = 0 then #[] else zv.cells
      have hval : parts.toList.map (fun p => (p.1, a.eval p.2)) = (parts.map fun (i, x) => (i, a.eval x)).toList := by simp
      obtain ⟨cells', hc1, hc2, hc3⟩ := fill_spec g.hdr (place := fun i => some (i * z, z)) (parts.toList.map fun p => (p.1, S.ev p.2)) (parts.toList.map fun p => (p.1, a.eval p.2)) _ as ((Array.range (len * z)).map (zero[· % zero.size]!)) (by simp)
        (fun i hi => by
          have hi' : i < parts.toList.length := by simpa using hi
          simp only [List.getElem_map, List.getElem?_map, List.getElem?_eq_getElem hi', Option.map_some, Option.getD_some]
          exact g.ev _) (by simp) (fun i hi => by simp only [List.getElem_replicate]; exact .t (.any _)) hf
      rw [hval] at hc1
      have hrun : (execOp a.eval o).run P w = .ok (.value (.slice (some ⟨w.heap.size, 0, none⟩) len len)) (w.alloc (.cells cells' e')) := by
        have hn : ¬ (len * z > 2 ^ 24) := by omega
        have hszr : (Go.sizeOf e').run P w = .ok z w := tySize_run (by unfold tySize; rw [hi]; simp [hiz]) w
        have hzr : (zeroValue e').run P w = .ok zv w := by simp [zeroValue, typeInfo, hi, hizv]
        simp only [execOp, ho, Instr.buildSlice, Sem.run_bind, run_underlying hu, Result.andThen_ok, hszr]
        rw [if_neg hn]
        by_cases h0 : len * z = 0
        · have hzz : zero = #[] := by simp [zero, h0]
          rw [hzz] at hc1
          simp only [h0, if_true, Sem.run_pure, Result.andThen_ok, Sem.run_bind]
          rw [h0] at hc1
          rw [hc1]
          simp [newRow]
        · have hzz : zero = zv.cells := by simp [zero, h0]
          rw [hzz] at hc1
          simp only [h0, if_false, Sem.run_bind, hzr, Result.andThen_ok, Sem.run_pure]
          rw [hc1]
          simp [newRow]
      obtain ⟨ts, S2, fp2, gs, I, hK, hlt, hlg, hos, hcell, hgn, hgs, _⟩ := giveL_spec g as cells'.toList S fp _ (Inter.refl S fp) (by simpa using hc2)
        (fun i h => by simpa [Array.getD_eq_getD_getElem?, List.getD_eq_getElem?_getD] using hc3 i h) k
      obtain ⟨hfree, hK⟩ := hK
      have hlen : as.length = len * z := by
        have : cells'.size = len * z := by
          have hsz := fill_size hc1
          simpa using hsz
        omega
      have g2 := g.newRow I (by omega) hos hgn hgs hfree hd cells' e' (fun i h => by simp [Array.getD_eq_getD_getElem?, List.getD_eq_getElem?_getD]) (.arr z ts) (.slice (some ⟨w.heap.size, 0, none⟩) len len) rfl
        (w.alloc (.cells cells' e')) rfl rfl rfl rfl
        (fun w' O' hb hr => .arr z ts _ len len cells' e' gs hb (by omega) (Nat.le_refl _) (by unfold maxLen; have := Nat.le_mul_of_pos_right len hz0; omega) (by omega) (by omega) hr)
      unfold Oper.wp
      rw [hrun, Oper.upon_value, hdst]
      exact ⟨_, _, _, g2, hK⟩
    · exact k.elim
  · exact k.elim
end
end Go.Ab
