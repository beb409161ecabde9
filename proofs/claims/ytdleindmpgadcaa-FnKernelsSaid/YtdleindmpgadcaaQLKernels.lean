/- The first kernel of every matrix solves it, in both programs alike, and what lies off the kernel has weight nothing: the law FnKernels returns true for every list of bytes. No conditions. No conditions. -/
import Derived.Test.YtdleindmpgadcaaRows
import Derived.Test.YtdleindmpgadcaaQ6
/- The law FnKernels, as a contract. -/
set_option linter.unusedSimpArgs false
set_option linter.unusedVariables false
namespace Go.Ab
open Go.Proofs
theorem hideK {α : Type} {p : α → Prop} (k0 : α) (h : ∀ k, k0 = k → p k) : p k0 := h k0 rfl
theorem two_uses {A C : Prop} (t : C) (h : C → A) : A := h t
theorem hitB_firstF {m : List (List Int)} (hm : isMat m = true) : ∃ r c, firstF m = some (r, c) ∧ kerIx m r c ∧ kerR m = r ∧ kerC m = c ∧ kerSol m = kernX m r c := by
  obtain ⟨r, c, hf⟩ := firstF_hit hm
  refine ⟨r, c, hf, (firstF_ix hm hf).2, ?_, ?_, ?_⟩
  · rw [kerR, hf]
  · rw [kerC, hf]
  · rw [kerSol, hf]
theorem mixI_off {n : Nat} {at' parts : List Int} {d : Int} {i : Nat} (hi : i < n) : ∀ k, (∀ j, j < k → (at'.getD j 0).toNat ≠ i) → (mixI n at' parts d k)[i]? = some (0, 1)
  | 0, _ => by rw [mixI, List.getElem?_replicate, if_pos hi]
  | k + 1, h => by rw [mixI, List.getElem?_set_ne (h k (by omega)), mixI_off hi k fun j hj => h j (by omega)]
theorem mixK_off {n : Nat} {at' parts : List Int} {d : Int} {i : Nat} (hi : i < n) (h : (i : Int) ∉ at') (h0 : ∀ x ∈ at', 0 ≤ x) : (mixK n at' parts d)[i]? = some (0, 1) := by
  refine mixI_off hi _ fun j hj e => h ?_
  have hm : at'.getD j 0 ∈ at' := by rw [List.getD_eq_getElem?_getD, List.getElem?_eq_getElem hj]; exact List.getElem_mem _
  have h1 := h0 _ hm
  have : at'.getD j 0 = (i : Int) := by omega
  rw [← this]; exact hm
theorem fk_len (m : List (List Int)) : (fkR m).length ≤ 4 ∧ (fkC m).length ≤ 4 := by
  unfold fkR fkC
  cases hm : isMat m with
  | false => simp
  | true =>
    obtain ⟨r, c, h1, h2, h3, h4, h5⟩ := hitB_firstF hm
    rw [h3, h4]
    have := h2.2.1
    have := h2.2.2.1
    simp only [if_true]
    omega
theorem fk_facts {m : List (List Int)} (hM : isMat m = true) : (fkR m).length = (fkC m).length ∧ 1 ≤ (fkR m).length ∧ (∀ i : Nat, i < (smR m).1.r.length → (i : Int) ∉ fkR m → (smR m).1.r[i]? = some (0, 1)) ∧ (∀ i : Nat, i < (smR m).1.c.length → (i : Int) ∉ fkC m → (smR m).1.c[i]? = some (0, 1)) ∧ (smR m).1.r.length ≤ 4 ∧ (smR m).1.c.length ≤ 4 := by
  obtain ⟨r, c, h1, h2, h3, h4, h5⟩ := hitB_firstF hM
  obtain ⟨b1, b2⟩ := smR_len4 m
  have e1 : fkR m = r := by rw [fkR, if_pos hM, h3]
  have e2 : fkC m = c := by rw [fkC, if_pos hM, h4]
  have e3 : (smR m).1 = kernX m r c := by rw [smR, if_pos hM, h5]
  rw [e3] at b1 b2
  rw [e1, e2, e3]
  obtain ⟨k1, k2, k3, k4, k5⟩ := h2
  refine ⟨k3.symm, k1, fun i hi hn => ?_, fun i hi hn => ?_, b1, b2⟩
  · simp only [kernX, mixK, mixI_length] at hi
    exact mixK_off hi hn fun x hx => (k4 x hx).1
  · simp only [kernX, mixK, mixI_length] at hi
    exact mixK_off hi hn fun x hx => (k5 x hx).1
section
attribute [-go_sem] load1C load1V fldC lenC idxC loadNV nilCheckW
theorem spec_DrawFirstKernel_ok (cs : List Int) (hc : bytesOK cs) (hl : cs.length ≤ 100000000000) : Fun Try.prog 51 [] [.t (bytes cs)] fun o r => ∃ x : List (List Int), o = [] ∧ r = rowsO x ∧ smallM x := by
  refine fun_spec_DrawFirstKernel (by simp) ?_
  simp -implicitDefEqProofs only [go_sem, evR, ints, rows, rat, rats, c_spec_DrawFirstKernel]
  refine CallW.res (spec_l01From_ok cs hc (by omega)) [] rfl Try.call61 ?_ (.inl rfl) ?_
  · simp -implicitDefEqProofs only [agR, Nat.reduceLeDiff, Nat.reduceSub, vaR, go_sem, ints, rows, rat, rats, ratsO, rtR, intsO, rowsO]
  simp -implicitDefEqProofs only [clR, Nat.reduceLeDiff, go_sem, evR, rat, srcT]
  have hs0 := seed_from (cs.take 64)
  generalize fromS (cs.take 64) = sd at hs0 ⊢
  refine CallW.exi (spec_l26Draw_ok cs hc hl (0, sd) hs0) [4] [] rfl Try.call60 (by simp) ?_ (by simp) ?_ (.inl rfl) (fun x hx => ?_)
  · simp -implicitDefEqProofs only [srR, Nat.reduceEqDiff, ↓reduceIte, ints, rows, intsO, rowsO]
  · simp -implicitDefEqProofs only [agR, Nat.reduceLeDiff, Nat.reduceSub, vaR, go_sem, ints, rows, rat, rats, ratsO, rtR, intsO, rowsO]
  simp -implicitDefEqProofs only [clR, Nat.reduceLeDiff, go_sem, evR, rat]
  exact ⟨x.1, rfl, hx.1⟩
set_option maxRecDepth 20000 in
theorem spec_DrawIsFair_ok (cs : List Int) (hc : bytesOK cs) (hl : cs.length ≤ 100000000000) : Fun Try.prog 52 [] [.t (bytes cs)] fun o r => ∃ x : List (List Int), o = [] ∧ r = rowsO x ∧ smallM x := by
  refine fun_spec_DrawIsFair (by simp) ?_
  simp -implicitDefEqProofs only [go_sem, evR, ints, rows, rat, rats, c_spec_DrawIsFair]
  refine CallW.res (spec_l01From_ok cs hc (by omega)) [] rfl Try.call61 ?_ (.inl rfl) ?_
  · simp -implicitDefEqProofs only [agR, Nat.reduceLeDiff, Nat.reduceSub, vaR, go_sem, ints, rows, rat, rats, ratsO, rtR, intsO, rowsO]
  simp -implicitDefEqProofs only [clR, Nat.reduceLeDiff, go_sem, evR, rat, srcT]
  have hs0 := seed_from (cs.take 64)
  generalize fromS (cs.take 64) = sd at hs0 ⊢
  refine CallW.exi (spec_l26Draw_ok cs hc hl (0, sd) hs0) [11] [] rfl Try.call60 (by simp) ?_ (by simp) ?_ (.inl rfl) (fun x hx => ?_)
  · simp -implicitDefEqProofs only [srR, Nat.reduceEqDiff, ↓reduceIte, ints, rows, intsO, rowsO]
  · simp -implicitDefEqProofs only [agR, Nat.reduceLeDiff, Nat.reduceSub, vaR, go_sem, ints, rows, rat, rats, ratsO, rtR, intsO, rowsO]
  simp -implicitDefEqProofs only [clR, Nat.reduceLeDiff, go_sem, evR, rat]
  obtain ⟨m, e⟩ := x
  obtain ⟨hx1, hx2⟩ := hx
  (try simp only [] at hx1 hx2)
  refine CallW.pure (spec_IsMatrix_ok m) [13] rfl Try.call39 ?_ (by first | trivial | simp [T.noSh, T.noShL, rat]) rfl ?_
  · simp -implicitDefEqProofs only [agR, Nat.reduceLeDiff, Nat.reduceSub, vaR, go_sem, ints, rows, rat, rats, ratsO, rtR, intsO, rowsO]
  simp -implicitDefEqProofs only [go_sem, evR, ints, rows, rat, rats]
  refine ⟨fun hm => ?_, fun hm => ⟨m, rfl, hx1⟩⟩
  refine CallW.ref (next_box cs hc hl e hx2 2 (by omega)) [11] [] rfl Try.call71 (by simp) ?_ (by simp) ?_ (.inl rfl) ?_
  · simp -implicitDefEqProofs only [srR, Nat.reduceEqDiff, ↓reduceIte, ints, rows, intsO, rowsO]
  · simp -implicitDefEqProofs only [agR, Nat.reduceLeDiff, Nat.reduceSub, vaR, go_sem, ints, rows, rat, rats, ratsO, rtR, intsO, rowsO]
  simp -implicitDefEqProofs only [clR, Nat.reduceLeDiff, go_sem, evR, rat, rowsO]
  refine ⟨fun hz => ?_, fun hz => ⟨m, rfl, hx1⟩⟩
  have hM : isMat m = true := by simpa using hm
  obtain ⟨m1, m2, m3, m4, m5, m6⟩ := isMat_spec hM
  obtain ⟨r0, hr0⟩ : ∃ r0, m[0]? = some r0 := ⟨_, List.getElem?_eq_getElem (by omega)⟩
  have hr0l : r0.length ≤ 6 := hx1.2 r0 (List.mem_of_getElem? hr0)
  have hw : r0.length = wid m := m5 r0 (List.mem_of_getElem? hr0)
  simp -implicitDefEqProofs only [go_sem, evR, ints, rows, rat, rats, hr0, Option.map_some, Option.getD_some, intsO]
  refine ⟨by omega, by omega, ?_⟩
  have hmin : (min (m.length : Int) (r0.length : Int)) = ((min m.length r0.length : Nat) : Int) := by omega
  generalize hn0 : min m.length r0.length = n at hmin
  have hn1 : n ≤ m.length ∧ n ≤ r0.length := by omega
  have hany : ((m.map intsO).set 0 T.any)[0]? = some .any := by rw [List.getElem?_set_self (by rw [List.length_map]; omega)]
  have hback : ((m.map intsO).set 0 T.any).set 0 (.arr 1 (r0.map T.i)) = m.map intsO := by
    rw [List.set_set]
    refine List.ext_getElem? fun i => ?_
    rcases i with _ | i
    · rw [List.getElem?_set_self (by rw [List.length_map]; omega), List.getElem?_map, hr0]; rfl
    · rw [List.getElem?_set_ne (by omega)]
  refine SemC.loopR (σ := List (List Int)) (fun s => St.of [(4, .t (rows m)), (5, .own 96), (6, .t (.i n)), (7, .t (.i s.length))] [(96, rowsO s)]) (fun s => s.length ≤ n ∧ ∀ r ∈ s, r.length ≤ 6) (fun s => n - s.length) [] (Weak.trans (Weak.close1 13 0 26 rfl rfl (by decide) hany) (Weak.trans (Weak.share 13 rfl) (Weak.of _ _ [some 21] (by simp) (by simp) ?_ ?_))) (by simp) fun s hI R hn hr he => ?_
  · simp -implicitDefEqProofs only [ints, rows, Nat.reduceBEq, wkR, Nat.reduceEqDiff, ↓reduceIte, wrR, shareA, hback, T.toSh, toShL_rows, List.length_nil, hmin]
  · exact ⟨⟨_, rfl, .refl _⟩, rfl, trivial⟩
  obtain ⟨i1, i2⟩ := hI
  rcases Nat.lt_or_ge s.length n with h9 | h9
  · simp -implicitDefEqProofs only [go_sem, evR, ints, rows, rat, rats, rowsO, decide_eq_true (show (s.length : Int) < (n : Int) by omega)]
    obtain ⟨ri, hri⟩ : ∃ ri, m[s.length]? = some ri := ⟨_, List.getElem?_eq_getElem (by omega)⟩
    have hril : ri.length = wid m := m5 ri (List.mem_of_getElem? hri)
    refine SemC.loopR (σ := List Int) (fun t => St.of [(4, .t (rows m)), (5, .own 96), (6, .t (.i n)), (7, .t (.i s.length)), (8, .own 97), (9, .t (.i t.length))] [(96, rowsO s), (97, intsO t)]) (fun t => t.length ≤ n) (fun t => n - t.length) [] (Weak.of _ _ [some 96, some 34] (by simp) (by simp) ?_ ?_) (by simp) fun t j1 R2 hn2 hr2 he2 => ?_
    · simp -implicitDefEqProofs only [ints, rows, Nat.reduceBEq, wkR, Nat.reduceEqDiff, ↓reduceIte, wrR, List.length_nil]
    · exact ⟨⟨_, rfl, .refl _⟩, rfl, ⟨_, rfl, .refl _⟩, rfl, trivial⟩
    rcases Nat.lt_or_ge t.length n with h8 | h8
    · obtain ⟨rk, hrk⟩ : ∃ rk, m[t.length]? = some rk := ⟨_, List.getElem?_eq_getElem (by omega)⟩
      have hrkl : rk.length = wid m := m5 rk (List.mem_of_getElem? hrk)
      obtain ⟨a, ha⟩ : ∃ a, ri[t.length]? = some a := ⟨_, List.getElem?_eq_getElem (by omega)⟩
      obtain ⟨b, hb⟩ : ∃ b, rk[s.length]? = some b := ⟨_, List.getElem?_eq_getElem (by omega)⟩
      simp -implicitDefEqProofs only [go_sem, evR, ints, rows, rat, rats, rowsO, intsO, decide_eq_true (show (t.length : Int) < (n : Int) by omega), hri, hrk, ha, hb, ints, Option.map_some, Option.getD_some]
      refine ⟨fun _ => ?_, fun _ => ⟨fun _ => ?_, fun _ => ?_⟩⟩
      · refine ⟨by omega, by omega, by omega, by omega, by omega, by omega, by omega, hn2 _ (t ++ [a]) (Weak.of _ _ [some 96, some 56] (by simp) (by simp) ?_ ?_) (by simp; omega) (by simp; omega)⟩
        · simp -implicitDefEqProofs only [ints, rows, Nat.reduceBEq, wkR, Nat.reduceEqDiff, ↓reduceIte, wrR, next64 h8 (by omega), List.length_append, List.length_cons, List.length_nil]
        · refine ⟨⟨_, rfl, .refl _⟩, rfl, ⟨_, rfl, ?_⟩, rfl, trivial⟩
          simp only [intsO, List.map_append, List.map_cons, List.map_nil]; exact .refl _
      · refine ⟨by omega, by omega, by omega, by omega, by omega, by omega, by omega, hn2 _ (t ++ [(IntKind.i64.wrap (0 - b))]) (Weak.of _ _ [some 96, some 71] (by simp) (by simp) ?_ ?_) (by simp; omega) (by simp; omega)⟩
        · simp -implicitDefEqProofs only [ints, rows, Nat.reduceBEq, wkR, Nat.reduceEqDiff, ↓reduceIte, wrR, next64 h8 (by omega), List.length_append, List.length_cons, List.length_nil]
        · refine ⟨⟨_, rfl, .refl _⟩, rfl, ⟨_, rfl, ?_⟩, rfl, trivial⟩
          simp only [intsO, List.map_append, List.map_cons, List.map_nil]; exact .refl _
      · refine ⟨by omega, hn2 _ (t ++ [0]) (Weak.of _ _ [some 96, some 42] (by simp) (by simp) ?_ ?_) (by simp; omega) (by simp; omega)⟩
        · simp -implicitDefEqProofs only [ints, rows, Nat.reduceBEq, wkR, Nat.reduceEqDiff, ↓reduceIte, wrR, next64 h8 (by omega), List.length_append, List.length_cons, List.length_nil]
        · refine ⟨⟨_, rfl, .refl _⟩, rfl, ⟨_, rfl, ?_⟩, rfl, trivial⟩
          simp only [intsO, List.map_append, List.map_cons, List.map_nil]; exact .refl _
    · simp -implicitDefEqProofs only [go_sem, evR, ints, rows, rat, rats, rowsO, intsO, decide_eq_false (show ¬ (t.length : Int) < (n : Int) by omega)]
      refine he2 _ _ ?_
      simp -implicitDefEqProofs only [go_sem, evR, ints, rows, rat, rats, rowsO, intsO]
      refine ⟨by omega, hn _ (s ++ [t]) (Weak.of _ _ [some 75] (by simp) (by simp) ?_ ?_) ⟨by simp; omega, smallM_snoc i2 (by omega)⟩ (by simp; omega)⟩
      · simp -implicitDefEqProofs only [ints, rows, Nat.reduceBEq, wkR, Nat.reduceEqDiff, ↓reduceIte, wrR, next64 h9 (by omega), List.length_append, List.length_cons, List.length_nil]
      · refine ⟨⟨_, rfl, ?_⟩, rfl, trivial⟩
        simp only [rowsO, intsO, List.map_append, List.map_cons, List.map_nil]; exact .refl _
  · simp -implicitDefEqProofs only [go_sem, evR, ints, rows, rat, rats, rowsO, decide_eq_false (show ¬ (s.length : Int) < (n : Int) by omega)]
    refine he _ _ ?_
    simp -implicitDefEqProofs only [go_sem, evR, ints, rows, rat, rats, rowsO]
    exact ⟨s, rfl, by omega, i2⟩
theorem ratC_at0 {l : List (Int × Int)} {i : Nat} {v : Int × Int} (h : l[i]? = some v) : (ratC l)[i * 2]? = some (.i v.1) := by
  induction l generalizing i with
  | nil => simp at h
  | cons a l ih =>
    cases i with
    | zero => simp only [List.getElem?_cons_zero, Option.some.injEq] at h; subst h; rfl
    | succ i => rw [ratC_cons, show (i + 1) * 2 = i * 2 + 1 + 1 by omega, List.getElem?_cons_succ, List.getElem?_cons_succ]; exact ih (by simpa using h)
set_option maxRecDepth 20000 in
theorem laws_FnKernels_ok (cs : List Int) (hc : bytesOK cs) : Pure Try.prog 10 [bytes cs] (.b true) := by
  refine fun_laws_FnKernels (by simp) ?_
  simp -implicitDefEqProofs only [go_sem, evR, ints, rows, rat, rats, c_laws_FnKernels]
  refine CallW.pure (laws_big_ok cs) [] rfl Try.call30 ?_ (by first | trivial | simp [T.noSh, T.noShL, rat]) rfl ?_
  · simp -implicitDefEqProofs only [agR, Nat.reduceLeDiff, Nat.reduceSub, vaR, go_sem, ints, rows, rat, rats, ratsO, rtR, intsO, rowsO]
  simp -implicitDefEqProofs only [go_sem, evR, ints, rows, rat, rats]
  refine ⟨fun _ => trivial, fun hbig => ?_⟩
  have hl : cs.length ≤ 4096 := by have : (cs.length : Int) ≤ 4096 := by simpa using hbig
                                   omega
  refine CallW.exi (spec_DrawFirstKernel_ok cs hc (by omega)) [] [] rfl Try.call51 (by simp) ?_ (by simp) ?_ (.inl rfl) (fun m hm => ?_)
  · simp -implicitDefEqProofs only [srR, Nat.reduceEqDiff, ↓reduceIte, ints, rows, intsO, rowsO]
  · simp -implicitDefEqProofs only [agR, Nat.reduceLeDiff, Nat.reduceSub, vaR, go_sem, ints, rows, rat, rats, ratsO, rtR, intsO, rowsO]
  simp -implicitDefEqProofs only [clR, Nat.reduceLeDiff, go_sem, evR, rat]
  have hml : m.length ≤ 1000000000000 := by have := hm.1; omega
  have hmr : ∀ r ∈ m, r.length ≤ 1000000000000 := fun r hr => by have := hm.2 r hr; omega
  refine CallW.weak (Weak.trans (Weak.share 24 rfl) (Weak.of [(0, .t (bytes cs)), (3, .t (rows m)), (26, .t (rows m))] [] [] (by simp) (by simp) ?_ ?_)) ?_
  · simp -implicitDefEqProofs only [ints, rows, Nat.reduceBEq, wkR, Nat.reduceEqDiff, ↓reduceIte, wrR, shareA, rowsO_toSh]
  · exact trivial
  have hp := impl_FirstKernel_ok m (by omega) hmr
  simp only [rows, intsO] at hp
  refine CallW.res hp [] rfl Try.call20 ?_ (.inl rfl) ?_
  · simp -implicitDefEqProofs only [agR, Nat.reduceLeDiff, Nat.reduceSub, vaR, go_sem, ints, rows, rat, rats, ratsO, rtR, intsO, rowsO]
  simp -implicitDefEqProofs only [clR, Nat.reduceLeDiff, go_sem, evR, rat]
  have hp2 := spec_FirstKernel_ok m
  simp only [rows, ints] at hp2
  refine CallW.res hp2 [] rfl Try.call19 ?_ (.inl rfl) ?_
  · simp -implicitDefEqProofs only [agR, Nat.reduceLeDiff, Nat.reduceSub, vaR, go_sem, ints, rows, rat, rats, ratsO, rtR, intsO, rowsO]
  simp -implicitDefEqProofs only [clR, Nat.reduceLeDiff, go_sem, evR, rat]
  refine CallW.exi (spec_DrawIsFair_ok cs hc (by omega)) [] [] rfl Try.call52 (by simp) ?_ (by simp) ?_ (.inl rfl) (fun f hf => ?_)
  · simp -implicitDefEqProofs only [srR, Nat.reduceEqDiff, ↓reduceIte, ints, rows, intsO, rowsO]
  · simp -implicitDefEqProofs only [agR, Nat.reduceLeDiff, Nat.reduceSub, vaR, go_sem, ints, rows, rat, rats, ratsO, rtR, intsO, rowsO]
  simp -implicitDefEqProofs only [clR, Nat.reduceLeDiff, go_sem, evR, rat]
  have hfl : f.length ≤ 1000000000000 := by have := hf.1; omega
  have hfr : ∀ r ∈ f, r.length ≤ 1000000000000 := fun r hr => by have := hf.2 r hr; omega
  refine CallW.pure (impl_IsFair_ok f (by omega) hfr) [38] rfl Try.call14 ?_ (by first | trivial | simp [T.noSh, T.noShL, rat]) rfl ?_
  · simp -implicitDefEqProofs only [agR, Nat.reduceLeDiff, Nat.reduceSub, vaR, go_sem, ints, rows, rat, rats, ratsO, rtR, intsO, rowsO]
  simp -implicitDefEqProofs only [go_sem, evR, ints, rows, rat, rats]
  refine CallW.pure (spec_IsFair_ok f) [38] rfl Try.call12 ?_ (by first | trivial | simp [T.noSh, T.noShL, rat]) rfl ?_
  · simp -implicitDefEqProofs only [agR, Nat.reduceLeDiff, Nat.reduceSub, vaR, go_sem, ints, rows, rat, rats, ratsO, rtR, intsO, rowsO]
  simp -implicitDefEqProofs only [go_sem, evR, ints, rows, rat, rats]
  obtain ⟨k1, k2⟩ := fk_len m
  refine CallW.pure (laws_likeInts_ok (fkR m) (fkR m) (by omega) (by omega)) [27] rfl Try.call37 ?_ (by first | trivial | simp [T.noSh, T.noShL, rat]) rfl ?_
  · simp -implicitDefEqProofs only [agR, Nat.reduceLeDiff, Nat.reduceSub, vaR, go_sem, ints, rows, rat, rats, ratsO, rtR, intsO, rowsO]
  simp -implicitDefEqProofs only [go_sem, evR, ints, rows, rat, rats, not_true_eq_false, decide_false, decide_true]
  refine CallW.pure (laws_likeInts_ok (fkC m) (fkC m) (by omega) (by omega)) [28001] rfl Try.call37 ?_ (by first | trivial | simp [T.noSh, T.noShL, rat]) rfl ?_
  · simp -implicitDefEqProofs only [agR, Nat.reduceLeDiff, Nat.reduceSub, vaR, go_sem, ints, rows, rat, rats, ratsO, rtR, intsO, rowsO]
  simp -implicitDefEqProofs only [go_sem, evR, ints, rows, rat, rats, not_true_eq_false, decide_false, decide_true, bne_self_eq_false]
  cases hM : isMat m with
  | false =>
    have hmb : (matC m != 0) = true := by rw [matC, hM]; rfl
    refine ⟨fun hi => ?_, fun hi => ⟨fun _ => trivial, fun h0 => absurd (hmb.symm.trans h0) (by decide)⟩⟩
    have hF : isMat f = true := by
      cases hF : isMat f with
      | true => rfl
      | false => rw [matC, hF] at hi; simp at hi
    have hv : vmR f = ((kerSol f).v, 0) := by rw [vmR, if_pos hF]
    have hfb : fairB f = ((kerSol f).v.1 == 0) := by rw [fairB, hF]; rfl
    have hq4 := impl_ValueOfMatrix_ok f (by omega) hfr
    rw [hv] at hq4
    refine CallW.pure hq4 [38] rfl Try.call17 ?_ (by first | trivial | simp [T.noSh, T.noShL, rat]) rfl ?_
    · simp -implicitDefEqProofs only [agR, Nat.reduceLeDiff, Nat.reduceSub, vaR, go_sem, ints, rows, rat, rats, ratsO, rtR, intsO, rowsO]
    simp -implicitDefEqProofs only [go_sem, evR, ints, rows, rat, rats, redT, rat, hfb, bne_self_eq_false]
    exact ⟨fun _ => trivial, fun h0 => absurd (hmb.symm.trans h0) (by decide)⟩
  | true =>
    have hmc : matC m = 0 := by rw [matC, if_pos hM]
    obtain ⟨hL1, hL2, hR, hC, hRl, hCl⟩ := fk_facts hM
    have hpos : ∀ i, 0 ≤ (i : Nat) := fun i => Nat.zero_le i
    apply two_uses
    rotate_left
    · intro tail
      refine ⟨fun hi => ?_, fun hi => ⟨fun _ => trivial, fun h0 => CallW.weak (Weak.trans (Weak.share 27 rfl) (Weak.trans (Weak.share 28001 rfl) (Weak.of [(4, .t (ints (fkR m))), (5, .t (ints (fkC m))), (93, .t (rows m))] [] [] (by simp) (by simp) ?_ ?_))) tail⟩⟩
      · have hF : isMat f = true := by
          cases hF : isMat f with
          | true => rfl
          | false => rw [matC, hF] at hi; simp at hi
        have hv : vmR f = ((kerSol f).v, 0) := by rw [vmR, if_pos hF]
        have hfb : fairB f = ((kerSol f).v.1 == 0) := by rw [fairB, hF]; rfl
        have hq4 := impl_ValueOfMatrix_ok f (by omega) hfr
        rw [hv] at hq4
        refine CallW.pure hq4 [38] rfl Try.call17 ?_ (by first | trivial | simp [T.noSh, T.noShL, rat]) rfl ?_
        · simp -implicitDefEqProofs only [agR, Nat.reduceLeDiff, Nat.reduceSub, vaR, go_sem, ints, rows, rat, rats, ratsO, rtR, intsO, rowsO]
        simp -implicitDefEqProofs only [go_sem, evR, ints, rows, rat, rats, redT, rat, hfb, bne_self_eq_false]
        refine ⟨fun _ => trivial, fun h0 => CallW.weak (Weak.trans (Weak.share 27 rfl) (Weak.trans (Weak.share 28001 rfl) (Weak.of [(4, .t (ints (fkR m))), (5, .t (ints (fkC m))), (93, .t (rows m))] [] [] (by simp) (by simp) ?_ ?_))) tail⟩
        · simp -implicitDefEqProofs only [ints, rows, Nat.reduceBEq, wkR, Nat.reduceEqDiff, ↓reduceIte, wrR, shareA, T.toSh, toShL_ints]
        · exact trivial
      · simp -implicitDefEqProofs only [ints, rows, Nat.reduceBEq, wkR, Nat.reduceEqDiff, ↓reduceIte, wrR, shareA, T.toSh, toShL_ints]
      · exact trivial
    · clear hp hp2
      obtain ⟨X, hX⟩ : ∃ X, (smR m).1 = X := ⟨_, rfl⟩
      obtain ⟨rl, hrl⟩ : ∃ X, fkR m = X := ⟨_, rfl⟩
      obtain ⟨cl, hcl⟩ : ∃ X, fkC m = X := ⟨_, rfl⟩
      rw [hX] at hR hC hRl hCl
      rw [hrl] at hL1 hL2 hR k1 ⊢
      rw [hcl] at hL1 hC k2 ⊢
      have hp3 := impl_SolveMatrix_ok m (by omega) hmr
      simp only [rows, solO, ratsO, hX, hmc] at hp3
      have hn1 : ((rl.length : Int) != (cl.length : Int)) = false := by rw [hL1]; simp
      have hn2 : ((rl.length : Int) == 0) = false := by rw [beq_eq_false_iff_ne]; omega
      refine CallW.res hp3 [] rfl Try.call26 ?_ (.inl rfl) ?_
      · simp -implicitDefEqProofs only [agR, Nat.reduceLeDiff, Nat.reduceSub, vaR, go_sem, ints, rows, rat, rats, ratsO, rtR, intsO, rowsO]
      refine hideK (p := fun k => afterCall _ _ _ _ _ (opsW _ _ _ k)) _ (fun kc hkc => ?_)
      simp -implicitDefEqProofs only [clR, Nat.reduceLeDiff, go_sem, evR, rat]
      rw [← hkc]
      clear hkc
      simp -implicitDefEqProofs only [go_sem, evR, ints, rows, rat, rats, bne_self_eq_false, hn1, hn2, List.length_map]
      refine SemC.loopR (σ := Nat) (fun i => St.of [(4, .t (ints rl)), (5, .t (ints cl)), (17, .t (.pin [rats X.r, rats X.c, .i X.v.1, .i X.v.2] 0)), (19, .t (.i i))] []) (fun i => i ≤ X.r.length) (fun i => X.r.length - i) 0 (Weak.trans (Weak.share 17 rfl) (Weak.of _ _ [] (by simp) (by simp) ?_ ?_)) (by simp) fun i hi2 R hn hr he => ?_
      · simp -implicitDefEqProofs only [ints, rows, Nat.reduceBEq, wkR, Nat.reduceEqDiff, ↓reduceIte, wrR, shareA, T.toSh, T.toShL, rats, toShL_ratC]
      · exact trivial
      rcases Nat.lt_or_ge i X.r.length with h9 | h9
      · simp -implicitDefEqProofs only [go_sem, evR, ints, rows, rat, rats, rats, decide_eq_true (show (i : Int) < (X.r.length : Int) by omega)]
        by_cases hin : (i : Int) ∈ rl
        · refine CallW.pure (laws_hasInt_ok rl i (by omega)) [] rfl Try.call40 ?_ (by first | trivial | simp [T.noSh, T.noShL, rat]) rfl ?_
          · simp -implicitDefEqProofs only [agR, Nat.reduceLeDiff, Nat.reduceSub, vaR, go_sem, ints, rows, rat, rats, ratsO, rtR, intsO, rowsO]
          simp -implicitDefEqProofs only [go_sem, evR, ints, rows, rat, rats, decide_eq_true hin]
          refine hn _ (i + 1) (Weak.of _ [] [] (by simp) (by simp) ?_ trivial) (by omega) (by omega)
          simp -implicitDefEqProofs only [ints, rows, wkR, Nat.reduceEqDiff, ↓reduceIte, rats, next64 h9 (by omega)]
        · have hz := hR i h9 hin
          refine CallW.pure (laws_hasInt_ok rl i (by omega)) [] rfl Try.call40 ?_ (by first | trivial | simp [T.noSh, T.noShL, rat]) rfl ?_
          · simp -implicitDefEqProofs only [agR, Nat.reduceLeDiff, Nat.reduceSub, vaR, go_sem, ints, rows, rat, rats, ratsO, rtR, intsO, rowsO]
          simp -implicitDefEqProofs only [go_sem, evR, ints, rows, rat, rats, decide_eq_false hin, ratC_at0 hz, ratC_length, Option.getD_some]
          refine ⟨by omega, by omega, by omega, ?_⟩
          refine hn _ (i + 1) (Weak.of _ [] [] (by simp) (by simp) ?_ trivial) (by omega) (by omega)
          simp -implicitDefEqProofs only [ints, rows, wkR, Nat.reduceEqDiff, ↓reduceIte, rats, next64 h9 (by omega)]
      · simp -implicitDefEqProofs only [go_sem, evR, ints, rows, rat, rats, rats, decide_eq_false (show ¬ (i : Int) < (X.r.length : Int) by omega)]
        refine he _ _ ?_
        simp -implicitDefEqProofs only [go_sem, evR, ints, rows, rat, rats]
        refine SemC.loopR (σ := Nat) (fun i => St.of [(4, .t (ints rl)), (5, .t (ints cl)), (17, .t (.pin [rats X.r, rats X.c, .i X.v.1, .i X.v.2] 0)), (20, .t (.i i))] []) (fun i => i ≤ X.c.length) (fun i => X.c.length - i) 0 (Weak.of _ [] [] (by simp) (by simp) ?_ trivial) (by simp) fun k hk2 R2 hn2 hr2 he2 => ?_
        · simp -implicitDefEqProofs only [ints, rows, wkR, Nat.reduceEqDiff, ↓reduceIte, rats]
        rcases Nat.lt_or_ge k X.c.length with h8 | h8
        · simp -implicitDefEqProofs only [go_sem, evR, ints, rows, rat, rats, rats, decide_eq_true (show (k : Int) < (X.c.length : Int) by omega)]
          by_cases hin : (k : Int) ∈ cl
          · refine CallW.pure (laws_hasInt_ok cl k (by omega)) [] rfl Try.call40 ?_ (by first | trivial | simp [T.noSh, T.noShL, rat]) rfl ?_
            · simp -implicitDefEqProofs only [agR, Nat.reduceLeDiff, Nat.reduceSub, vaR, go_sem, ints, rows, rat, rats, ratsO, rtR, intsO, rowsO]
            simp -implicitDefEqProofs only [go_sem, evR, ints, rows, rat, rats, decide_eq_true hin]
            refine hn2 _ (k + 1) (Weak.of _ [] [] (by simp) (by simp) ?_ trivial) (by omega) (by omega)
            simp -implicitDefEqProofs only [ints, rows, wkR, Nat.reduceEqDiff, ↓reduceIte, rats, next64 h8 (by omega)]
          · have hz := hC k h8 hin
            refine CallW.pure (laws_hasInt_ok cl k (by omega)) [] rfl Try.call40 ?_ (by first | trivial | simp [T.noSh, T.noShL, rat]) rfl ?_
            · simp -implicitDefEqProofs only [agR, Nat.reduceLeDiff, Nat.reduceSub, vaR, go_sem, ints, rows, rat, rats, ratsO, rtR, intsO, rowsO]
            simp -implicitDefEqProofs only [go_sem, evR, ints, rows, rat, rats, decide_eq_false hin, ratC_at0 hz, ratC_length, Option.getD_some]
            refine ⟨by omega, by omega, by omega, ?_⟩
            refine hn2 _ (k + 1) (Weak.of _ [] [] (by simp) (by simp) ?_ trivial) (by omega) (by omega)
            simp -implicitDefEqProofs only [ints, rows, wkR, Nat.reduceEqDiff, ↓reduceIte, rats, next64 h8 (by omega)]
        · simp -implicitDefEqProofs only [go_sem, evR, ints, rows, rat, rats, rats, decide_eq_false (show ¬ (k : Int) < (X.c.length : Int) by omega)]
          refine he2 _ _ ?_
          simp -implicitDefEqProofs only [go_sem, evR, ints, rows, rat, rats]
end
end Go.Ab

set_option linter.unusedSimpArgs false
set_option linter.unusedVariables false
namespace Go.Proofs.Ytdleindmpgadcaa
open Go.ChangeShapes Go.WideShapes Go.ChangeAt Go.RowKit Go.Ab

namespace fnKernels
theorem said : ∀ xs, wtL [tyU8s] xs → Pure Try.prog 10 xs (.b true)
  | [x], h => by
    obtain ⟨cs, rfl, _, hc⟩ := wt_bytes h.1
    exact laws_FnKernels_ok cs hc
  | [], h => h.elim
  | _ :: _ :: _, h => h.2.elim

set_option maxRecDepth 100000 in
theorem lifted (os : Os) (started : os.Started) (H : Type) (enc : TypeId × Value → H) :
    ReturnsInHanded {} Try.checked os 10 .any (Rows.fnKernelsSpec.pre6 enc Try.prog Try.f10 Rows.fnKernelsRow.domain false) (Rows.fnKernelsSpec.post enc Try.prog Try.f10 false true false false) := by
  refine returnsInHanded_of_change (C := Try.checked) (by kernel_rfl) started (by kernel_rfl) Try.func10
    (ChangeSpec.witness6 (enc := enc) (C := Try.checked) false ⟨#[], #[.slice none 0 0], []⟩ 8 (by kernel_rfl) (by kernel_rfl) (by kernel_rfl) (by kernel_rfl)) ?_
  intro W base args ds gs before hval hW _ _
  refine law_contract (tys := [tyU8s]) (by kernel_rfl) (by kernel_rfl) rfl (by kernel_rfl) rfl (fun ds h => ?_) said W base args ds gs before hval hW
  match ds, h with
  | [d0], _ => rfl

theorem andT {a b : Bool} (ha : a = true) (hb : b = true) : (a && b) = true := by rw [ha, hb]; rfl
theorem joined0 : ((Rows.fnKernelsRow.wf (OpenSpec.ofChange Rows.fnKernelsSpec))) = true := by kernel_rfl
theorem joined1 : (laidOutB Try.prog) = true := Try.laidOutT
theorem joined2 : (mapsRowed Try.prog) = true := Try.mapsRowedT
theorem joined3 : (Try.f10.params.all (Try.prog.readableRec ·)) = true := by kernel_rfl
theorem joined4 : (namedTie Try.prog Rows.fnKernelsRow.named Rows.fnKernelsSpec.vars) = true := by kernel_rfl
theorem joined5 : ((Rows.fnKernelsRow.stops == [])) = true := by kernel_rfl
theorem joined6 : ((Try.prog.stops == [])) = true := by kernel_rfl
theorem joined7 : ((Rows.fnKernelsRow.knobs == [])) = true := by kernel_rfl
theorem joined8 : ((Try.prog.stopKnobs == [])) = true := by kernel_rfl
theorem joined9 : ((Rows.fnKernelsRow.inPlace == Try.prog.inPlace 10)) = true := by kernel_rfl
theorem joined10 : ((Rows.fnKernelsRow.unfollowed == Try.prog.unfollowed 10)) = true := by kernel_rfl
theorem joined11 : ((Rows.fnKernelsRow.recurses == Try.prog.recurses 10)) = true := by kernel_rfl
theorem joined12 : ((Rows.fnKernelsRow.named == Try.prog.varsNamed 10)) = true := by kernel_rfl
theorem joined13 : ((Rows.fnKernelsRow.maps == (Try.f10.params.toList ++ Rows.fnKernelsSpec.plain.varTypes Try.prog).any (Try.prog.mapsRec ·))) = true := by kernel_rfl
theorem joined14 : ((Rows.fnKernelsRow.ifaces == (Try.f10.params.toList ++ Rows.fnKernelsSpec.plain.varTypes Try.prog).any (Try.prog.ifacesRec ·))) = true := by kernel_rfl
theorem joined15 : ((Rows.fnKernelsRow.mapsOut == Try.prog.mapsAmong Try.f10.resultTypes.toList)) = true := by kernel_rfl
theorem joined16 : ((Rows.fnKernelsRow.loops == (Try.f10.params.toList ++ Rows.fnKernelsSpec.plain.varTypes Try.prog).any (Try.prog.loopsFrom ·))) = true := by kernel_rfl
theorem joined17 : ((Rows.fnKernelsRow.wideKeys == (Try.f10.params.toList ++ Rows.fnKernelsSpec.plain.varTypes Try.prog ++ Try.f10.resultTypes.toList).any (Try.prog.wideKeysFrom ·))) = true := by kernel_rfl
theorem joined18 : (Rows.fnKernelsSpec.vars.all (Try.prog.varReadable ·)) = true := by kernel_rfl
theorem joined19 : (Try.f10.resultTypes.all (fun t => Try.prog.readableRec t && decide (t < Try.prog.types.size))) = true := by kernel_rfl
theorem joined20 : ((Rows.fnKernelsRow.ifacesOut == Try.f10.resultTypes.toList.any (Try.prog.ifacesRec ·))) = true := by kernel_rfl
theorem joined21 : ((Rows.fnKernelsRow.loopsOut == Try.f10.resultTypes.toList.any (Try.prog.loopsFrom ·))) = true := by kernel_rfl
theorem joined22 : ((Rows.fnKernelsRow.plainKeys == Try.prog.plainKeys)) = true := by kernel_rfl
theorem joined23 : (Rows.fnKernelsRow.shortTexts.isNone) = true := by kernel_rfl
theorem joined24 : (Try.prog.stopsHeard) = true := Try.heardT
theorem joined25 : (Try.prog.mayEnter) = true := Try.mayEnterT
theorem joined26 : ((Rows.fnKernelsRow.lifted == Try.prog.liftsFinal)) = true := (by rw [Try.liftsF]; rfl)
theorem joined27 : ((Try.prog.make == some Rows.fnKernelsRow.make)) = true := (by rw [Try.makeC]; rfl)
theorem joined28 : ((Rows.fnKernelsRow.kinds == (if Rows.fnKernelsRow.domain.isEmpty then [] else Try.f10.params.toList.map fun t => match Try.prog.underlying t with | some (.int k) => some k | _ => none))) = true := by kernel_rfl
theorem joined29 : ((Rows.fnKernelsRow.pinned == Rows.fnKernelsRow.pinnedBy)) = true := by kernel_rfl
theorem joined30 : ((Rows.fnKernelsRow.veiled == (Try.f10.params.toList ++ Rows.fnKernelsSpec.plain.varTypes Try.prog ++ Try.f10.resultTypes.toList).any (Try.prog.veiledRec ·))) = true := by kernel_rfl
theorem joined31 : (Rows.fnKernelsRow.veiledFits Try.prog Try.f10.params.toList (Try.f10.params.toList ++ Rows.fnKernelsSpec.plain.varTypes Try.prog ++ Try.f10.resultTypes.toList)) = true := by kernel_rfl
set_option maxRecDepth 100000 in
theorem joined : joinedFacts Try.prog 10 Try.f10 Rows.fnKernelsSpec Rows.fnKernelsRow = true := by
  unfold joinedFacts
  exact andT (andT (andT (andT (andT (andT (andT (andT (andT (andT (andT (andT (andT (andT (andT (andT (andT (andT (andT (andT (andT (andT (andT (andT (andT (andT (andT (andT (andT (andT (andT (joined0) joined1) joined2) joined3) joined4) joined5) joined6) joined7) joined8) joined9) joined10) joined11) joined12) joined13) joined14) joined15) joined16) joined17) joined18) joined19) joined20) joined21) joined22) joined23) joined24) joined25) joined26) joined27) joined28) joined29) joined30) joined31
theorem over : Rows.fnKernelsRow.holds Try.pinned (OpenSpec.ofChange Rows.fnKernelsSpec) :=
  OpenClaim.holds_of_wide 10 Try.f10 rfl rfl rfl rfl rfl rfl rfl ⟨rfl, rfl, rfl, rfl, rfl⟩ rfl rfl rfl rfl rfl (by kernel_rfl) Try.func10 joined
    (of_decide_eq_true (by kernel_rfl)) (by unfold Func.isWrapper; first | (rw [if_pos (by decide +kernel)]; kernel_rfl) | (rw [if_neg (by decide +kernel)]; exact ⟨rfl, rfl⟩))
    (fun os started H enc _ => lifted os started H enc)
end fnKernels

theorem fnKernels_holds : Rows.FnKernelsSaid := fnKernels.over
#print axioms fnKernels_holds
end Go.Proofs.Ytdleindmpgadcaa
