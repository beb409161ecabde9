/- The abstract layer, part 9: make, append, conversions, parts of slices, function values. -/
import Derived.Test.YtbilpaghpgomeaaAb8
set_option linter.unusedSimpArgs false
set_option linter.unusedVariables false
namespace Go.Ab

/-- The cells of m zero elements. -/
def made (zs : List T) (m : Nat) : List T :=
  match zs with
  | [z] => List.replicate m z
  | zs => (List.range (m * zs.length)).map fun i => zs.getD (i % zs.length) .any

theorem pos_of_lt_mul {i m k : Nat} (h : i < m * k) : 0 < k := Nat.pos_of_ne_zero fun h0 => by rw [h0] at h; simp at h
theorem made_length (zs : List T) (m : Nat) : (made zs m).length = m * zs.length := by
  unfold made; split <;> simp
theorem made_getElem? {zs : List T} {m i : Nat} (h : i < m * zs.length) : (made zs m)[i]? = zs[i % zs.length]? := by
  have hp : 0 < zs.length := pos_of_lt_mul h
  have hm : i % zs.length < zs.length := Nat.mod_lt _ hp
  unfold made
  split
  · simp at h ⊢; simp [List.getElem?_replicate, h, Nat.mod_one]
  · rw [List.getElem?_map, List.getElem?_range h]; simp [List.getElem?_eq_getElem hm]

def makeW (P : Program) (t : TypeId) (l c : A) (d : Nat) (S : St) (K : St → Prop) : Prop :=
  match tyElem P t, l, c with
  | some e, .t (.v (.int _ m)), .t (.v (.int _ m')) => m' = m ∧ 0 ≤ m ∧ (match tyZero P e, tyBytes P e with
    | some zs, some by_ => 0 < by_ ∧ m * by_ ≤ 281474976710656 ∧ newK d (.arr zs.length) K (made zs m.toNat) S
    | _, _ => False)
  | _, _, _ => False

section
variable {P : Program} {n : Nat} {S : St} {K : St → Prop} {X : Nat → Prop} {w0 : World} {O0 : Fr} {a : Act} {w : World} {hs : Nat → Option Value} {fp : Nat → List Nat}

theorem opW_make {o : Oper} {t : TypeId} {d : Nat} {l c : Operand} (ho : o.op = .makeSlice t l c) (hdst : o.dst = some d) (hd : d < n) {e : TypeId} (he : tyElem P t = some e) (hsz : ∀ zs, tyZero P e = some zs → tySize P e = some zs.length)
    (k : makeW P t (S.ev l) (S.ev c) d S K) : OpW P n o S K := by
  unfold makeW at k
  split at k
  · rename_i e' k1 m k2 m' he' hl hc
    obtain ⟨rfl, hm0, k⟩ := k
    have : e' = e := by rw [he] at he'; cases he'; rfl
    subst this
    split at k
    · rename_i zs by_ hz hby
      obtain ⟨hby0, hle, hfree, hK⟩ := k
      intro X w0 O0 a w hs fp g Q
      obtain ⟨i, z, hi, hiz, hzs⟩ := tyZero_spec hz
      obtain ⟨i', hi', hbi⟩ := tyBytes_spec hby
      have : i' = i := by rw [hi] at hi'; cases hi'; rfl
      subst this
      obtain ⟨i'', hi'', hsi⟩ := tySize_spec (hsz zs hz)
      have : i'' = i' := by rw [hi] at hi''; cases hi''; rfl
      subst this
      have h1 := g.ev l; rw [hl] at h1; have h1 := h1.v_inv
      have h2 := g.ev c; rw [hc] at h2; have h2 := h2.v_inv
      have hm63 : m' ≤ 281474976710656 := by
        have := Int.mul_le_mul_of_nonneg_left (show (1 : Int) ≤ (by_ : Int) by omega) hm0; omega
      have hr := run_make (P := P) w t e' i'' z (tyElem_spec he) hi hiz k1 k2 m' m' hm0 (Int.le_refl _) (by rw [hbi, Int.mul_comm]; exact hle) (by omega)
      have hlen : z.cells.size = zs.length := by rw [hzs]; simp
      have hmc : ∀ j, (madeCells z.cells (m'.toNat * i''.size)).getD j undef = if j < m'.toNat * zs.length then z.cells.toList.getD (j % zs.length) undef else undef := by
        intro j
        rw [hsi]
        simp only [madeCells, Array.getD_eq_getD_getElem?, Array.getElem?_map]
        by_cases hj : j < m'.toNat * zs.length
        · have hp : 0 < zs.length := pos_of_lt_mul hj
          have hnz : ¬ m'.toNat * zs.length = 0 := by omega
          have hmod : j % zs.length < z.cells.size := by rw [hlen]; exact Nat.mod_lt _ hp
          rw [if_pos hj]
          simp [hj, hnz, hlen, List.getD_eq_getElem?_getD]
          rw [getElem!_pos z.cells _ hmod, Array.getElem?_eq_getElem hmod]; rfl
        · rw [if_neg hj]; simp [hj]
      have hrun : (execOp a.eval o).run P w = .ok (.value (.slice (some ⟨w.heap.size, 0, none⟩) m'.toNat m'.toNat)) (w.alloc (.cells (madeCells z.cells (m'.toNat * i''.size)) e')) := by
        simp only [execOp, ho, h1, h2, Sem.run_bind, hr, Result.andThen_ok, Sem.run_pure]
      have hml := made_length zs m'.toNat
      have g2 := g.newRow (Inter.refl S fp) (ts := made zs m'.toNat) (vs := (madeCells z.cells (m'.toNat * i''.size)).toList) (gs := List.replicate (made zs m'.toNat).length []) (by simp) (fun j h => by
          have hj : j < m'.toNat * zs.length := by rwa [hml] at h
          have e1 := made_getElem? hj
          rw [List.getElem?_eq_getElem h] at e1
          have hp : 0 < zs.length := pos_of_lt_mul hj
          have hmod : j % zs.length < zs.length := Nat.mod_lt _ hp
          have e2 : (made zs m'.toNat)[j] = T.v (z.cells.toList.getD (j % zs.length) undef) := by
            have hmod' : j % zs.length < z.cells.toList.length := by have h5 : z.cells.toList.length = z.cells.size := Array.length_toList; omega
            have : zs[j % zs.length]? = some (T.v (z.cells.toList.getD (j % zs.length) undef)) := by
              rw [List.getD_eq_getElem?_getD, List.getElem?_eq_getElem hmod', Option.getD_some]
              conv => lhs; rw [hzs]
              rw [List.getElem?_map]
              have hmod'' : j % (z.cells.toList.map T.v).length = j % zs.length := by rw [hzs]
              rw [hmod'', List.getElem?_eq_getElem hmod']; rfl
            rw [this] at e1; exact Option.some.inj e1
          rw [e2, List.getD_eq_getElem?_getD (l := List.replicate _ _), List.getElem?_replicate, if_pos h]
          have := hmc j
          rw [if_pos hj] at this
          rw [← this, List.getD_eq_getElem?_getD, Array.getD_eq_getD_getElem?, Array.getElem?_toList]
          exact .rd (.v _)) (by simp) (by simp) hfree hd (madeCells z.cells (m'.toNat * i''.size)) e' (fun j h => by simp [Array.getD_eq_getD_getElem?, List.getD_eq_getElem?_getD])
        (.arr zs.length (made zs m'.toNat)) (.slice (some ⟨w.heap.size, 0, none⟩) m'.toNat m'.toNat) rfl (w.alloc (.cells (madeCells z.cells (m'.toNat * i''.size)) e')) rfl rfl rfl rfl
        (fun w' O' hb hr => .arr _ _ _ _ _ _ e' _ hb hml (Nat.le_refl _) (by unfold maxLen; omega) (by rw [size_madeCells, hsi]) (by simp) hr)
      unfold Oper.wp
      rw [hrun, Oper.upon_value, hdst]
      simp only [List.flatten_replicate_nil] at g2
      exact ⟨_, _, _, g2, hK⟩
    · exact k.elim
  · exact k.elim
end
end Go.Ab
