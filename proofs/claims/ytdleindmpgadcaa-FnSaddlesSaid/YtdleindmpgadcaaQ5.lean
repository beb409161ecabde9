/- Contracts: saddle points by lowest and highest numbers. -/
import Derived.Shelf.SlicesE.Delete
import Derived.Test.YtdleindmpgadcaaProg
import Derived.Test.YtdleindmpgadcaaQ4
set_option linter.unusedSimpArgs false
set_option linter.unusedVariables false
namespace Go.Ab
open Go.Proofs

theorem foldl_min_spec : ∀ (l : List Int) (a : Int), (∀ y ∈ a :: l, l.foldl min a ≤ y) ∧ l.foldl min a ∈ a :: l
  | [], a => by simp
  | b :: l, a => by
    obtain ⟨h1, h2⟩ := foldl_min_spec l (min a b)
    refine ⟨fun y hy => ?_, ?_⟩
    · have h0 := h1 (min a b) (by simp)
      rcases List.mem_cons.1 hy with rfl | hy
      · simp only [List.foldl_cons]; omega
      · rcases List.mem_cons.1 hy with rfl | hy
        · simp only [List.foldl_cons]; omega
        · exact h1 y (List.mem_cons_of_mem _ hy)
    · simp only [List.foldl_cons]
      rcases List.mem_cons.1 h2 with h | h
      · rw [h]
        rcases Int.le_total a b with h' | h'
        · rw [Int.min_eq_left h']; simp
        · rw [Int.min_eq_right h']; simp
      · simp [h]
theorem foldl_max_spec : ∀ (l : List Int) (a : Int), (∀ y ∈ a :: l, y ≤ l.foldl max a) ∧ l.foldl max a ∈ a :: l
  | [], a => by simp
  | b :: l, a => by
    obtain ⟨h1, h2⟩ := foldl_max_spec l (max a b)
    refine ⟨fun y hy => ?_, ?_⟩
    · have h0 := h1 (max a b) (by simp)
      rcases List.mem_cons.1 hy with rfl | hy
      · simp only [List.foldl_cons]; omega
      · rcases List.mem_cons.1 hy with rfl | hy
        · simp only [List.foldl_cons]; omega
        · exact h1 y (List.mem_cons_of_mem _ hy)
    · simp only [List.foldl_cons]
      rcases List.mem_cons.1 h2 with h | h
      · rw [h]
        rcases Int.le_total a b with h' | h'
        · rw [Int.max_eq_right h']; simp
        · rw [Int.max_eq_left h']; simp
      · simp [h]
theorem minL_spec {l : List Int} (h : l ≠ []) : (∀ y ∈ l, minL l ≤ y) ∧ minL l ∈ l := by
  cases l with
  | nil => simp at h
  | cons a l => exact foldl_min_spec l a
theorem maxL_spec {l : List Int} (h : l ≠ []) : (∀ y ∈ l, y ≤ maxL l) ∧ maxL l ∈ l := by
  cases l with
  | nil => simp at h
  | cons a l => exact foldl_max_spec l a
theorem minL_iff {l : List Int} {x : Int} (hx : x ∈ l) : x = minL l ↔ ∀ y ∈ l, x ≤ y := by
  obtain ⟨h1, h2⟩ := minL_spec (List.ne_nil_of_mem hx)
  exact ⟨fun h y hy => h ▸ h1 y hy, fun h => Int.le_antisymm (h _ h2) (h1 _ hx)⟩
theorem maxL_iff {l : List Int} {x : Int} (hx : x ∈ l) : x = maxL l ↔ ∀ y ∈ l, y ≤ x := by
  obtain ⟨h1, h2⟩ := maxL_spec (List.ne_nil_of_mem hx)
  exact ⟨fun h y hy => h ▸ h1 y hy, fun h => Int.le_antisymm (h1 _ hx) (h _ h2)⟩
theorem sad_eq {m : List (List Int)} {c i k : Nat} {row : List Int} {x : Int} (hr : m[i]? = some row) (hl : row.length = c) (hx : row[k]? = some x) :
    sad m c i k = (decide (x = minL row) && decide (x = maxL (colOf m k))) := by
  have hxc : x ∈ colOf m k := List.mem_map.2 ⟨row, List.mem_of_getElem? hr, by rw [List.getD_eq_getElem?_getD, hx]; rfl⟩
  have hxe : ent m i k = x := ent_get hr hx
  rw [sad, hxe]
  congr 1
  · rw [Bool.eq_iff_iff, decide_eq_true_eq, minL_iff (List.mem_of_getElem? hx), List.all_eq_true]
    refine ⟨fun h y hy => ?_, fun h j hj => ?_⟩
    · obtain ⟨j, hj⟩ := List.mem_iff_getElem?.1 hy
      have := h j (by rw [List.mem_range, ← hl]; exact (List.getElem?_eq_some_iff.1 hj).1)
      rw [ent_get hr hj] at this; simpa using this
    · rw [List.mem_range, ← hl] at hj
      rw [ent_get hr (List.getElem?_eq_getElem hj)]
      simpa using h _ (List.getElem_mem hj)
  · rw [Bool.eq_iff_iff, decide_eq_true_eq, maxL_iff hxc, List.all_eq_true]
    refine ⟨fun h y hy => ?_, fun h j hj => ?_⟩
    · obtain ⟨r, hr', rfl⟩ := List.mem_map.1 hy
      obtain ⟨j, hj⟩ := List.mem_iff_getElem?.1 hr'
      have := h j (by rw [List.mem_range]; exact (List.getElem?_eq_some_iff.1 hj).1)
      simp only [ent, List.getD_eq_getElem?_getD, hj, Option.getD_some] at this
      simpa [List.getD_eq_getElem?_getD] using this
    · rw [List.mem_range] at hj
      have := h (m[j].getD k 0) (List.mem_map.2 ⟨m[j], List.getElem_mem hj, rfl⟩)
      simp only [ent, List.getD_eq_getElem?_getD, List.getElem?_eq_getElem hj, Option.getD_some]
      simpa [List.getD_eq_getElem?_getD] using this

theorem tr_get {m : List (List Int)} {c k : Nat} {col : List Int} (h : (tr m c)[k]? = some col) : col = colOf m k := by
  simp only [tr, List.getElem?_map] at h
  rcases Nat.lt_or_ge k c with hk | hk
  · rw [List.getElem?_range hk] at h; simpa using h.symm
  · rw [List.getElem?_eq_none (by simpa using hk)] at h; simp at h

theorem impl_SaddlePoint_ok (m : List (List Int)) (hml : m.length ≤ 1000000000000) (hmr : ∀ r ∈ m, r.length ≤ 1000000000000) : Fun Try.prog 32 [] [.t (rows m)] fun o r => o = [] ∧ r = sadT (spRes m) := by
  refine fun_impl_SaddlePoint (by simp) ?_
  simp -implicitDefEqProofs only [go_sem, evR, ints, rows, rat, rats, c_impl_SaddlePoint]
  refine CallW.pure (impl_IsMatrix_ok m (by omega) hmr) [] rfl Try.call38 ?_ (by first | trivial | simp [T.noSh, T.noShL, rat]) rfl ?_
  · simp -implicitDefEqProofs only [agR, Nat.reduceLeDiff, Nat.reduceSub, vaR, go_sem, ints, rows, rat, rats, ratsO, rtR, intsO, rowsO]
  simp -implicitDefEqProofs only [go_sem, evR, ints, rows, rat, rats]
  refine ⟨fun h => ?_, fun h => ?_⟩
  · have h' : isMat m = false := by simpa using h
    rw [spRes, h']; rfl
  have hmat : isMat m = true := by simpa using h
  obtain ⟨h1, h2, h3, h4, h5, h6⟩ := isMat_spec hmat
  have hres : spRes m = saddle m (m.headD []).length := by rw [spRes, if_pos hmat]
  rw [hres]
  generalize hc : (m.headD []).length = c at h3 h4 h5 ⊢
  have htr : (tr m c).length = c := by simp [tr]
  refine CallW.res (impl_turned_ok m c (by rintro rfl; simp at h1) h5 (by omega) (by omega)) [] rfl Try.call62 ?_ (.inl rfl) ?_
  · simp -implicitDefEqProofs only [agR, Nat.reduceLeDiff, Nat.reduceSub, vaR, go_sem, ints, rows, rat, rats, ratsO, rtR, intsO, rowsO]
  simp -implicitDefEqProofs only [clR, Nat.reduceLeDiff, go_sem, evR, rat]
  refine SemC.loopR (σ := Nat) (fun i => St.of [(0, .t (rows m)), (5, .t (rows (tr m c))), (15, .t (rows m)), (16, .t (.i m.length)), (17, .t (.i i))] []) (fun i => i ≤ m.length ∧ noSad m c i 0) (fun i => m.length - i) 0 (Weak.trans (Weak.share 14 rfl) (Weak.of _ [] [] (by simp) (by simp) ?_ trivial)) ⟨by omega, fun _ _ h => by omega, fun _ h => by omega⟩ fun i hI R hn hr he => ?_
  · simp -implicitDefEqProofs only [ints, rows, wkR, Nat.reduceEqDiff, ↓reduceIte, shareA, rowsO_toSh]
  · simp -implicitDefEqProofs only [go_sem, evR, ints, rows, rat, rats]
    refine ⟨fun h => ⟨by omega, by omega, by omega, fun row hrow => ?_⟩, fun h => he _ _ ?_⟩
    · have hrl := h5 row (List.mem_of_getElem? hrow)
      refine SemC.loopR (σ := Nat) (fun k => St.of [(0, .t (rows m)), (5, .t (rows (tr m c))), (6, .t (.i i)), (7, .t (ints row)), (15, .t (rows m)), (16, .t (.i m.length)), (17, .t (.i i)), (22, .t (ints row)), (23, .t (.i c)), (24, .t (.i k))] []) (fun k => k ≤ c ∧ noSad m c i k) (fun k => c - k) 0 (Weak.of _ [] [] (by simp) (by simp) ?_ trivial) ⟨by omega, hI.2⟩ fun k hK R2 hn2 hr2 he2 => ?_
      · simp -implicitDefEqProofs only [ints, rows, wkR, Nat.reduceEqDiff, ↓reduceIte, hrl]
      · simp -implicitDefEqProofs only [go_sem, evR, ints, rows, rat, rats]
        refine ⟨fun h => ⟨by omega, by omega, by omega, fun x hx => ?_⟩, fun h => he2 _ _ ?_⟩
        · have hsad := sad_eq hrow hrl hx
          refine CallW.pure (slices_Min_ok row (List.ne_nil_of_mem (List.mem_of_getElem? hx)) (by omega)) [] rfl Try.call63 ?_ (by first | trivial | simp [T.noSh, T.noShL, rat]) rfl ?_
          · simp -implicitDefEqProofs only [agR, Nat.reduceLeDiff, Nat.reduceSub, vaR, go_sem, ints, rows, rat, rats, ratsO, rtR, intsO, rowsO]
          simp -implicitDefEqProofs only [go_sem, evR, ints, rows, rat, rats]
          refine ⟨fun hb => ⟨by omega, by omega, by omega, fun col hcol => ?_⟩, fun hb => ?_⟩
          · have hb1 : x = minL row := by simpa using hb
            rw [decide_eq_true hb1, Bool.true_and] at hsad
            rw [tr_get hcol]
            refine CallW.pure (slices_Max_ok (colOf m k) (by simp [colOf]; rintro rfl; simp at h1) (by simp [colOf]; omega)) [] rfl Try.call64 ?_ (by first | trivial | simp [T.noSh, T.noShL, rat]) rfl ?_
            · simp -implicitDefEqProofs only [agR, Nat.reduceLeDiff, Nat.reduceSub, vaR, go_sem, ints, rows, rat, rats, ratsO, rtR, intsO, rowsO]
            simp -implicitDefEqProofs only [go_sem, evR, ints, rows, rat, rats]
            refine ⟨fun hb2 => hr2 _ ?_, fun hb2 => ?_⟩
            · have hb3 : x = maxL (colOf m k) := by simpa using hb2
              rw [decide_eq_true hb3] at hsad
              simp -implicitDefEqProofs only [go_sem, evR, ints, rows, rat, rats]
              refine hr _ ?_
              simp -implicitDefEqProofs only [go_sem, evR, ints, rows, rat, rats]
              rw [saddle_some (by omega) (by omega) hK.2 hsad]
              rfl
            · have hb3 : ¬ x = maxL (colOf m k) := by simpa using hb2
              rw [decide_eq_false hb3] at hsad
              refine hn2 _ (k + 1) (Weak.of _ [] [] (by simp) (by simp) ?_ trivial) ⟨by omega, noSad_next hK.2 hsad⟩ (by omega)
              simp -implicitDefEqProofs only [ints, rows, wkR, Nat.reduceEqDiff, ↓reduceIte, next64 (by omega : k < c) (by omega)]
          · have hb1 : ¬ x = minL row := by simpa using hb
            rw [decide_eq_false hb1, Bool.false_and] at hsad
            refine hn2 _ (k + 1) (Weak.of _ [] [] (by simp) (by simp) ?_ trivial) ⟨by omega, noSad_next hK.2 hsad⟩ (by omega)
            simp -implicitDefEqProofs only [ints, rows, wkR, Nat.reduceEqDiff, ↓reduceIte, next64 (by omega : k < c) (by omega)]
        · simp -implicitDefEqProofs only [go_sem, evR, ints, rows, rat, rats]
          have hkc : k = c := by omega
          rw [hkc] at hK
          refine hn _ (i + 1) (Weak.of _ [] [] (by simp) (by simp) ?_ trivial) ⟨by omega, noSad_row hK.2⟩ (by omega)
          simp -implicitDefEqProofs only [ints, rows, wkR, Nat.reduceEqDiff, ↓reduceIte, next64 (by omega : i < m.length) (by omega)]
    · simp -implicitDefEqProofs only [go_sem, evR, ints, rows, rat, rats]
      rw [saddle_none (fun i' k' hi' hk' => hI.2.1 i' k' (by omega) hk')]
      rfl
end Go.Ab

/- The law FnExactSaddlePoint, as a contract. -/
set_option linter.unusedSimpArgs false
set_option linter.unusedVariables false
namespace Go.Ab
open Go.Proofs

end Go.Ab

/- Contracts: rows that are dominated, the reference. -/
set_option linter.unusedSimpArgs false
set_option linter.unusedVariables false
namespace Go.Ab
open Go.Proofs

def beats (m : List (List Int)) (c i j : Nat) : Bool := (List.range c).all fun k => decide (ent m i k < ent m j k)
def dom (m : List (List Int)) (c i : Nat) : Bool := (List.range m.length).any fun j => beats m c i j
def domL (m : List (List Int)) (c n : Nat) : List Int := ((List.range n).filter (dom m c)).map Int.ofNat
def drRes (m : List (List Int)) : List Int × Int := if isMat m then (domL m (m.headD []).length m.length, 0) else ([], 1)
def drT (m : List (List Int)) : T := .tup [intsO (drRes m).1, .i (drRes m).2]
theorem domL_succ (m : List (List Int)) (c n : Nat) : domL m c (n + 1) = if dom m c n then domL m c n ++ [(n : Int)] else domL m c n := by
  simp only [domL, List.range_succ, List.filter_append, List.filter_cons, List.filter_nil, List.map_append]
  split <;> simp
theorem domL_length (m : List (List Int)) (c n : Nat) : (domL m c n).length ≤ n := by
  have := List.length_filter_le (dom m c) (List.range n)
  simp only [domL, List.length_map]
  simpa using this

theorem spec_DominatedRows_ok (m : List (List Int)) : Fun Try.prog 36 [] [.t (rows m)] fun o r => o = [] ∧ r = drT m := by
  refine Fun.le (Q := fun o r => o = [] ∧ (r = drT m ∨ (isMat m = false ∧ r = .tup [.v (.slice none 0 0), .i 1]))) ?_ ?_
  case refine_2 =>
    rintro o r ⟨rfl, rfl | ⟨h, rfl⟩⟩
    · exact ⟨_, .refl _, rfl, rfl⟩
    · refine ⟨_, ?_, rfl, rfl⟩
      rw [drT, drRes, h]
      exact .tup2 (.nilArr 1) (.refl _)
  refine fun_spec_DominatedRows (by simp) ?_
  simp -implicitDefEqProofs only [go_sem, evR, ints, rows, rat, rats, c_spec_DominatedRows]
  refine CallW.pure (spec_IsMatrix_ok m) [] rfl Try.call39 ?_ (by first | trivial | simp [T.noSh, T.noShL, rat]) rfl ?_
  · simp -implicitDefEqProofs only [agR, Nat.reduceLeDiff, Nat.reduceSub, vaR, go_sem, ints, rows, rat, rats, ratsO, rtR, intsO, rowsO]
  simp -implicitDefEqProofs only [go_sem, evR, ints, rows, rat, rats]
  refine ⟨fun h => ?_, fun h => ?_⟩
  · have h' : isMat m = false := by simpa using h
    exact .inr h'
  have hmat : isMat m = true := by simpa using h
  obtain ⟨h1, h2, h3, h4, h5, h6⟩ := isMat_spec hmat
  have hres : drT m = .tup [intsO (domL m (m.headD []).length m.length), .i 0] := by rw [drT, drRes, if_pos hmat]
  rw [hres]
  generalize hc : (m.headD []).length = c at h3 h4 h5 ⊢
  have hrow0 : ∀ r0, m[0]? = some r0 → r0.length = c := fun r0 h0 => h5 r0 (List.mem_of_getElem? h0)
  refine SemC.loopR (σ := Nat) (fun i => St.of [(0, .t (rows m)), (4, .own 13), (5, .t (.i i))] [(13, .arr 1 ((domL m c i).map T.i))]) (fun i => i ≤ m.length) (fun i => m.length - i) 0 (Weak.of _ _ [some 13] (by simp) (by simp) ?_ ?_) (by omega) fun i hI R hn hr he => ?_
  · simp -implicitDefEqProofs only [ints, rows, Nat.reduceBEq, wkR, Nat.reduceEqDiff, ↓reduceIte, wrR]
  · exact ⟨⟨_, rfl, by rw [show domL m c 0 = [] from rfl]; exact .refl _⟩, rfl, trivial⟩
  · simp -implicitDefEqProofs only [go_sem, evR, ints, rows, rat, rats]
    refine ⟨fun h => ?_, fun h => he _ _ ?_⟩
    · obtain ⟨row, hrow⟩ : ∃ r, m[i]? = some r := ⟨_, List.getElem?_eq_getElem (by omega)⟩
      have hrl := h5 row (List.mem_of_getElem? hrow)
      refine SemC.loopR (σ := Nat × Bool) (fun s => St.of [(0, .t (rows m)), (4, .own 13), (5, .t (.i i)), (6, .t (.b s.2)), (7, .t (.i s.1))] [(13, .arr 1 ((domL m c i).map T.i))]) (fun s => s.1 ≤ m.length ∧ s.2 = (List.range s.1).any fun j => beats m c i j) (fun s => m.length - s.1) (0, false) (Weak.of _ _ [some 13] (by simp) (by simp) ?_ ?_) ⟨by simp, rfl⟩ fun s hJ R2 hn2 hr2 he2 => ?_
      · simp -implicitDefEqProofs only [ints, rows, Nat.reduceBEq, wkR, Nat.reduceEqDiff, ↓reduceIte, wrR]
      · exact ⟨⟨_, rfl, .refl _⟩, rfl, trivial⟩
      · obtain ⟨j, b⟩ := s
        obtain ⟨hj, hb⟩ := hJ
        (try simp only [] at hj hb)
        simp -implicitDefEqProofs only [go_sem, evR, ints, rows, rat, rats]
        refine ⟨fun h => ?_, fun h => he2 _ _ ?_⟩
        · obtain ⟨row2, hrow2⟩ : ∃ r, m[j]? = some r := ⟨_, List.getElem?_eq_getElem (by omega)⟩
          have hrl2 := h5 row2 (List.mem_of_getElem? hrow2)
          refine SemC.loopR (σ := Nat × Bool) (fun s => St.of [(0, .t (rows m)), (4, .own 13), (5, .t (.i i)), (6, .t (.b b)), (7, .t (.i j)), (8, .t (.b s.2)), (9, .t (.i s.1))] [(13, .arr 1 ((domL m c i).map T.i))]) (fun s => s.1 ≤ c ∧ s.2 = (List.range s.1).all fun k => decide (ent m i k < ent m j k)) (fun s => c - s.1) (0, true) (Weak.of _ _ [some 13] (by simp) (by simp) ?_ ?_) ⟨by simp, rfl⟩ fun s hK R3 hn3 hr3 he3 => ?_
          · simp -implicitDefEqProofs only [ints, rows, Nat.reduceBEq, wkR, Nat.reduceEqDiff, ↓reduceIte, wrR]
          · exact ⟨⟨_, rfl, .refl _⟩, rfl, trivial⟩
          · obtain ⟨k, b2⟩ := s
            obtain ⟨hk, hb2⟩ := hK
            (try simp only [] at hk hb2)
            cases b2
            all_goals
              simp -implicitDefEqProofs only [go_sem, evR, ints, rows, rat, rats]
            all_goals refine ⟨by omega, by omega, fun r0 h0 => ?_⟩
            all_goals rw [hrow0 r0 h0]
            all_goals refine ⟨fun h => ?_, fun h => he3 _ _ ?_⟩
            · refine hn3 _ (k + 1, false) (Weak.of _ _ [some 13] (by simp) (by simp) ?_ ?_) ⟨by simp only []; omega, by rw [List.range_succ, List.all_append, ← hb2]; rfl⟩ (by simp only []; omega)
              · simp -implicitDefEqProofs only [ints, rows, Nat.reduceBEq, wkR, Nat.reduceEqDiff, ↓reduceIte, wrR, next64 (by omega : k < c) (by omega)]
              · exact ⟨⟨_, rfl, .refl _⟩, rfl, trivial⟩
            rotate_left
            · refine ⟨by omega, by omega, by omega, fun r hr' => ⟨by omega, ?_, ?_, fun y hy => ⟨by omega, by omega, by omega, fun r' hr'' => ⟨by omega, ?_, ?_, fun z hz => ?_⟩⟩⟩⟩
              all_goals rw [hrow2] at hr'; cases hr'
              · omega
              · omega
              all_goals rw [hrow] at hr''; cases hr''
              · omega
              · omega
              refine hn3 _ (k + 1, decide (z < y)) (Weak.of _ _ [some 13] (by simp) (by simp) ?_ ?_) ⟨by simp only []; omega, ?_⟩ (by simp only []; omega)
              · simp -implicitDefEqProofs only [ints, rows, Nat.reduceBEq, wkR, Nat.reduceEqDiff, ↓reduceIte, wrR, next64 (by omega : k < c) (by omega)]
              · exact ⟨⟨_, rfl, .refl _⟩, rfl, trivial⟩
              · rw [List.range_succ, List.all_append, ← hb2]; simp [ent_get hrow hz, ent_get hrow2 hy]
            all_goals
              have hkc : k = c := by omega
              subst hkc
              simp -implicitDefEqProofs only [go_sem, evR, ints, rows, rat, rats]
              refine ⟨fun hbb => ?_, fun hbb => ?_⟩
              all_goals subst hbb
            · refine hn2 _ (j + 1, true) (Weak.of _ _ [some 13] (by simp) (by simp) ?_ ?_) ⟨by simp only []; omega, by rw [List.range_succ, List.any_append, ← hb]; simp [beats, ← hb2]⟩ (by simp only []; omega)
              · simp -implicitDefEqProofs only [ints, rows, Nat.reduceBEq, wkR, Nat.reduceEqDiff, ↓reduceIte, wrR, next64 (by omega : j < m.length) (by omega)]
              · exact ⟨⟨_, rfl, .refl _⟩, rfl, trivial⟩
            · refine hn2 _ (j + 1, true) (Weak.of _ _ [some 13] (by simp) (by simp) ?_ ?_) ⟨by simp only []; omega, by rw [List.range_succ, List.any_append, ← hb]; simp [beats, ← hb2]⟩ (by simp only []; omega)
              · simp -implicitDefEqProofs only [ints, rows, Nat.reduceBEq, wkR, Nat.reduceEqDiff, ↓reduceIte, wrR, next64 (by omega : j < m.length) (by omega)]
              · exact ⟨⟨_, rfl, .refl _⟩, rfl, trivial⟩
            · refine hn2 _ (j + 1, false) (Weak.of _ _ [some 13] (by simp) (by simp) ?_ ?_) ⟨by simp only []; omega, by rw [List.range_succ, List.any_append, ← hb]; simp [beats, ← hb2]⟩ (by simp only []; omega)
              · simp -implicitDefEqProofs only [ints, rows, Nat.reduceBEq, wkR, Nat.reduceEqDiff, ↓reduceIte, wrR, next64 (by omega : j < m.length) (by omega)]
              · exact ⟨⟨_, rfl, .refl _⟩, rfl, trivial⟩
            · refine hn2 _ (j + 1, true) (Weak.of _ _ [some 13] (by simp) (by simp) ?_ ?_) ⟨by simp only []; omega, by rw [List.range_succ, List.any_append, ← hb]; simp [beats, ← hb2]⟩ (by simp only []; omega)
              · simp -implicitDefEqProofs only [ints, rows, Nat.reduceBEq, wkR, Nat.reduceEqDiff, ↓reduceIte, wrR, next64 (by omega : j < m.length) (by omega)]
              · exact ⟨⟨_, rfl, .refl _⟩, rfl, trivial⟩
        · have hjm : j = m.length := by omega
          subst hjm
          have hd : b = dom m c i := hb
          simp -implicitDefEqProofs only [go_sem, evR, ints, rows, rat, rats]
          refine ⟨fun hbb => ?_, fun hbb => ?_⟩
          · have hdl := domL_length m c i
            refine ⟨by omega, hn _ (i + 1) (Weak.of _ _ [some 60] (by simp) (by simp) ?_ ?_) (by omega) (by omega)⟩
            · simp -implicitDefEqProofs only [ints, rows, Nat.reduceBEq, wkR, Nat.reduceEqDiff, ↓reduceIte, wrR, next64 (by omega : i < m.length) (by omega)]
            · refine ⟨⟨_, rfl, ?_⟩, rfl, trivial⟩
              rw [domL_succ, if_pos (by rw [← hd, hbb])]
              simp only [List.map_append, List.map_cons, List.map_nil]
              exact .refl _
          · refine hn _ (i + 1) (Weak.of _ _ [some 13] (by simp) (by simp) ?_ ?_) (by omega) (by omega)
            · simp -implicitDefEqProofs only [ints, rows, Nat.reduceBEq, wkR, Nat.reduceEqDiff, ↓reduceIte, wrR, next64 (by omega : i < m.length) (by omega)]
            · refine ⟨⟨_, rfl, ?_⟩, rfl, trivial⟩
              rw [domL_succ, if_neg (by rw [← hd, hbb]; simp)]
              exact .refl _
    · simp -implicitDefEqProofs only [go_sem, evR, ints, rows, rat, rats]
      have him : i = m.length := by omega
      subst him
      exact .inl rfl
end Go.Ab

/- Contracts: rows that are dominated, the program's. -/
set_option linter.unusedSimpArgs false
set_option linter.unusedVariables false
namespace Go.Ab
open Go.Proofs

def beatsR (x r : List Int) : Bool := (List.range x.length).all fun k => decide (x.getD k 0 < r.getD k 0)
theorem dom_any {m : List (List Int)} {c i : Nat} {x : List Int} (hx : m[i]? = some x) (hl : x.length = c) : m.any (beatsR x) = dom m c i := by
  have key : ∀ (j : Nat) (r : List Int), m[j]? = some r → beatsR x r = beats m c i j := fun j r hr => by
    simp only [beatsR, beats, ent, List.getD_eq_getElem?_getD, hx, hr, hl, Option.getD_some]
  rw [Bool.eq_iff_iff, List.any_eq_true, dom, List.any_eq_true]
  constructor
  · rintro ⟨r, hr, h⟩
    obtain ⟨j, hj⟩ := List.mem_iff_getElem?.1 hr
    exact ⟨j, List.mem_range.2 (List.getElem?_eq_some_iff.1 hj).1, by rw [← key j r hj]; exact h⟩
  · rintro ⟨j, hj, h⟩
    rw [List.mem_range] at hj
    exact ⟨m[j], List.getElem_mem hj, by rw [key j _ (List.getElem?_eq_getElem hj)]; exact h⟩

theorem impl_DominatedRows_1_ok (r x : List Int) (hl : x.length ≤ 1000000000000) (hr : x.length ≤ r.length) : Pure Try.prog 66 [ints r, .pin [ints x] 0] (.b (beatsR x r)) := by
  refine fun_impl_DominatedRows_1 (by simp) ?_
  simp -implicitDefEqProofs only [go_sem, evR, ints, rows, rat, rats, c_impl_DominatedRows_1]
  refine SemC.loopR (σ := Nat) (fun k => St.of [(0, .t (ints r)), (6, .t (ints x)), (7, .t (.i x.length)), (8, .t (.i k))] []) (fun k => k ≤ x.length ∧ ((List.range k).all fun k => decide (x.getD k 0 < r.getD k 0)) = true) (fun k => x.length - k) 0 (Weak.of _ [] [] (by simp) (by simp) ?_ trivial) ⟨by simp, rfl⟩ fun k hI R hn hr' he => ?_
  · simp -implicitDefEqProofs only [ints, rows, wkR, Nat.reduceEqDiff, ↓reduceIte]
  · obtain ⟨hk, ha⟩ := hI
    simp -implicitDefEqProofs only [go_sem, evR, ints, rows, rat, rats]
    refine ⟨fun h => ⟨by omega, by omega, by omega, fun y hy => ⟨by omega, by omega, by omega, fun z hz => ?_⟩⟩, fun h => he _ _ ?_⟩
    · have hy' : x.getD k 0 = y := by rw [List.getD_eq_getElem?_getD, hy]; rfl
      have hz' : r.getD k 0 = z := by rw [List.getD_eq_getElem?_getD, hz]; rfl
      refine ⟨fun hle => hr' _ ?_, fun hle => hn _ (k + 1) (Weak.of _ [] [] (by simp) (by simp) ?_ trivial) ⟨by omega, ?_⟩ (by omega)⟩
      · simp -implicitDefEqProofs only [go_sem, evR, ints, rows, rat, rats]
        have : beatsR x r = false := by
          rw [beatsR, List.all_eq_false]
          exact ⟨k, by simp; omega, by simp only [hy', hz']; simp; omega⟩
        rw [this]
      · simp -implicitDefEqProofs only [ints, rows, wkR, Nat.reduceEqDiff, ↓reduceIte, next64 (by omega : k < x.length) hl]
      · rw [List.range_succ, List.all_append, ha]
        simp only [List.all_cons, List.all_nil, hy', hz']; simp; omega
    · simp -implicitDefEqProofs only [go_sem, evR, ints, rows, rat, rats]
      have hkx : k = x.length := by omega
      rw [hkx] at ha
      rw [beatsR, ha]

theorem impl_DominatedRows_ok (m : List (List Int)) (hml : m.length ≤ 1000000000000) (hmr : ∀ r ∈ m, r.length ≤ 1000000000000) : Fun Try.prog 35 [] [.t (rows m)] fun o r => o = [] ∧ r = drT m := by
  refine Fun.le (Q := fun o r => o = [] ∧ (r = drT m ∨ (isMat m = false ∧ r = .tup [.v (.slice none 0 0), .i 1]))) ?_ ?_
  case refine_2 =>
    rintro o r ⟨rfl, rfl | ⟨h, rfl⟩⟩
    · exact ⟨_, .refl _, rfl, rfl⟩
    · refine ⟨_, ?_, rfl, rfl⟩
      rw [drT, drRes, h]
      exact .tup2 (.nilArr 1) (.refl _)
  refine fun_impl_DominatedRows (by simp) ?_
  simp -implicitDefEqProofs only [go_sem, evR, ints, rows, rat, rats, c_impl_DominatedRows]
  refine CallW.pure (impl_IsMatrix_ok m (by omega) hmr) [] rfl Try.call38 ?_ (by first | trivial | simp [T.noSh, T.noShL, rat]) rfl ?_
  · simp -implicitDefEqProofs only [agR, Nat.reduceLeDiff, Nat.reduceSub, vaR, go_sem, ints, rows, rat, rats, ratsO, rtR, intsO, rowsO]
  simp -implicitDefEqProofs only [go_sem, evR, ints, rows, rat, rats]
  refine ⟨fun h => ?_, fun h => ?_⟩
  · have h' : isMat m = false := by simpa using h
    exact .inr h'
  have hmat : isMat m = true := by simpa using h
  obtain ⟨h1, h2, h3, h4, h5, h6⟩ := isMat_spec hmat
  have hres : drT m = .tup [intsO (domL m (m.headD []).length m.length), .i 0] := by rw [drT, drRes, if_pos hmat]
  rw [hres]
  generalize hc : (m.headD []).length = c at h3 h4 h5 ⊢
  refine SemC.loopR (σ := Nat) (fun i => St.of [(0, .t (rows m)), (4, .own 77), (11, .t (rows m)), (12, .t (.i m.length)), (13, .t (.i i))] [(77, .arr 1 ((domL m c i).map T.i))]) (fun i => i ≤ m.length) (fun i => m.length - i) 0 (Weak.of _ _ [none] (by simp) (by simp) ?_ ?_) (by omega) fun i hI R hn hr he => ?_
  · simp -implicitDefEqProofs only [ints, rows, Nat.reduceBEq, wkR, Nat.reduceEqDiff, ↓reduceIte, wrR]
  · exact ⟨⟨1, by rw [show domL m c 0 = [] from rfl]; rfl⟩, trivial⟩
  · simp -implicitDefEqProofs only [go_sem, evR, ints, rows, rat, rats]
    refine ⟨fun h => ⟨by omega, by omega, by omega, fun row hrow => ?_⟩, fun h => he _ _ ?_⟩
    · have hrl := h5 row (List.mem_of_getElem? hrow)
      refine CallW.pure (slices_ContainsFunc_ok m (by omega) 66 [.pin [ints row] 0] (beatsR row) Try.call66 (fun r hr' => impl_DominatedRows_1_ok r row (by omega) (by have := h5 r hr'; omega))) [6] rfl Try.call65 ?_ trivial rfl ?_
      · simp -implicitDefEqProofs only [vaR, go_sem, ints, rows]
        exact ⟨by simp, _, rfl, by simp only [T.toSh, T.toShL]⟩
      simp -implicitDefEqProofs only [go_sem, evR, ints, rows, rat, rats]
      rw [dom_any hrow hrl]
      refine ⟨fun hbb => ?_, fun hbb => ?_⟩
      · have hdl := domL_length m c i
        refine ⟨by omega, hn _ (i + 1) (Weak.of _ _ [some 25] (by simp) (by simp) ?_ ?_) (by omega) (by omega)⟩
        · simp -implicitDefEqProofs only [ints, rows, Nat.reduceBEq, wkR, Nat.reduceEqDiff, ↓reduceIte, wrR, next64 (by omega : i < m.length) (by omega)]
        · refine ⟨⟨_, rfl, ?_⟩, rfl, trivial⟩
          rw [domL_succ, if_pos hbb]
          simp only [List.map_append, List.map_cons, List.map_nil]
          exact .refl _
      · refine hn _ (i + 1) (Weak.of _ _ [some 77] (by simp) (by simp) ?_ ?_) (by omega) (by omega)
        · simp -implicitDefEqProofs only [ints, rows, Nat.reduceBEq, wkR, Nat.reduceEqDiff, ↓reduceIte, wrR, next64 (by omega : i < m.length) (by omega)]
        · refine ⟨⟨_, rfl, ?_⟩, rfl, trivial⟩
          rw [domL_succ, if_neg (by rw [hbb]; simp)]
          exact .refl _
    · simp -implicitDefEqProofs only [go_sem, evR, ints, rows, rat, rats]
      have him : i = m.length := by omega
      subst him
      exact .inl rfl
end Go.Ab

/- The law FnExactDominatedRows, as a contract. -/
set_option linter.unusedSimpArgs false
set_option linter.unusedVariables false
namespace Go.Ab
open Go.Proofs

theorem drT_noSh (m : List (List Int)) : (drT m).noSh := ⟨intsO_noSh _, trivial, trivial⟩
theorem drRes_length (m : List (List Int)) : (drRes m).1.length ≤ m.length := by
  rw [drRes]; split
  · exact domL_length _ _ _
  · simp

end Go.Ab

/- Contracts: the flipped matrix, the reference. -/
set_option linter.unusedSimpArgs false
set_option linter.unusedVariables false
namespace Go.Ab
open Go.Proofs

def neg (l : List Int) : List Int := l.map fun x => -x
end Go.Ab

/- slices.Delete: its contract, out of the kit's shelf. -/
set_option linter.unusedSimpArgs false
set_option linter.unusedVariables false
namespace Go.Ab
open Go.Proofs Go.Shelf Go.Sort

def delRen : Go.Shelf.Ren := ⟨fun | 45 => 126 | n => n, fun | 0 => 0 | 3 => 3 | 4 => 4 | 22 => 34 | 23 => 2 | n => n, fun n => n⟩
theorem delL : SlLaysE.n45 Try.prog delRen := {
  mixed := by kernel_rfl
  f45 := ⟨Try.f126.name, by decide, Try.func126.trans (congrArg some (by kernel_rfl))⟩
  t0 := Try.underlying0
  a0 := Try.isAgg0
  z0 := Try.sizeOf0
  v0 := Try.zeroValue0
  t3 := Try.underlying3
  a3 := Try.isAgg3
  z3 := Try.sizeOf3
  v3 := Try.zeroValue3
  t4 := Try.underlying4
  a4 := Try.isAgg4
  z4 := Try.sizeOf4
  v4 := Try.zeroValue4
  t22 := Try.underlying34
  a22 := Try.isAgg34
  z22 := Try.sizeOf34
  v22 := Try.zeroValue34
  a23 := Try.isAgg2
  z23 := Try.sizeOf2 }

theorem getD_mapIdx_lt {f : Nat → Value → Value} {cs : Array Value} {k : Nat} (h : k < cs.size) : (cs.mapIdx f).getD k undef = f k (cs.getD k undef) := by
  simp [Array.getD_eq_getD_getElem?, h]

theorem slices_Delete_ok (l : List Int) (i j : Nat) (hij : i < j) (hj : j ≤ l.length) : Fun Try.prog 126 [intsO l] [.own 1000000000, .t (.i i), .t (.i j)] fun o r => o = [.any] ∧ r = intsO (l.take i ++ l.drop j) := by
  intro X w vals hs fp hm hlen hi
  obtain ⟨x, hx, ho, _⟩ := hm.root 0 _ rfl
  simp only [Nat.add_zero] at hx ho
  have h0 := (hi 0 (by simp)).own_inv
  rw [hx, Option.some.injEq] at h0
  have h1 := (hi 1 (by simp)).v_inv
  have h2 := (hi 2 (by simp)).v_inv
  have hv : vals.toArray = #[x, .int .i64 i, .int .i64 j] := by
    match vals, hlen with
    | [a, b, c], _ =>
      simp only [List.getD_cons_zero, List.getD_cons_succ] at h0 h1 h2
      subst h0 h1 h2; rfl
  rw [hv]
  generalize hfp : fp 1000000000 = f at ho
  unfold intsO at ho
  generalize hL : l.map T.i = L at ho
  have hLl : L.length = l.length := by rw [← hL, List.length_map]
  cases ho with
  | rd h => cases h
  | arrNil => simp at hLl; omega
  | arr _ _ b len cap cs e fps hb hl hc hmx hsz hf hr =>
    rw [hLl] at hl hf
    simp only [Nat.mul_one] at hl hsz
    have hcell : ∀ k (h : k < l.length), cs.getD k undef = .int .i64 l[k] ∧ fps.getD k [] = [] := fun k h => by
      have := hr k (by omega)
      have e : L[k]'(by omega) = T.i l[k] := by
        have : L[k]'(by omega) = (l.map T.i)[k]'(by simpa using h) := by congr 1; exact hL.symm
        rw [this, List.getElem_map]
      rw [e] at this
      generalize cs.getD k undef = y at this
      generalize fps.getD k [] = g at this
      cases this with
      | rd hh => cases hh; exact ⟨rfl, rfl⟩
    have hflat : fps.flatten = [] := by
      rw [List.flatten_eq_nil_iff]
      intro g hg
      obtain ⟨k, hk, rfl⟩ := List.mem_iff_getElem.1 hg
      have := (hcell k (by omega)).2
      rwa [List.getD_eq_getElem?_getD, List.getElem?_eq_getElem hk] at this
    have hH : Holds (Value.int .i64) w b 0 l.toArray := fun k hk => by
      have hk : k < l.length := by simpa using hk
      refine ⟨?_, ?_⟩
      · rw [Nat.zero_add, cells_at hb (by omega), (hcell k hk).1, getElem!_pos _ k (by simpa using hk)]; simp
      · simp [World.frozen?, hb]
    have hcall := AnyE.slices_Delete delL (Value.int .i64) (fun _ => rfl) 0 Try.zeroValue2 ((Try.prog.info? 2).get (by kernel_rfl)) (by kernel_rfl) (by kernel_rfl) b 0 cap i j l.toArray w hH (by simp; omega) (by have := hmx; unfold maxLen at this; omega) (by omega) (by simpa using hj)
    have hlen' : l.toArray.size = len := by simp [hl]
    rw [hlen'] at hcall
    refine Calls.mono hcall ?_
    rintro ee w' ⟨rfl, q, rfl⟩
    generalize hnew : (l.toArray.toList.take i ++ l.toArray.toList.drop j ++ List.replicate (j - i) (0 : Int)).toArray = d
    have hds : d.size = len := by rw [← hnew]; simp; omega
    have hdl : d.toList = l.take i ++ l.drop j ++ List.replicate (j - i) 0 := by rw [← hnew]
    have hw' : ∀ b' : Nat, (putRow (Value.int .i64) (Go.Sort.ahead w q) b 0 d).heap[b']? = if b = b' then some (.cells (putCells (Value.int .i64) 0 d cs) e (0, 0)) else w.heap[b']? := fun b' => by
      show (w.heap.modify b (onCells (putCells (Value.int .i64) 0 d)))[b']? = _
      rw [Array.getElem?_modify]
      by_cases hbb : b = b'
      · subst hbb; simp only [if_true, hb, Option.map_some, onCells]
      · simp only [hbb, if_false]
    refine ⟨_, intsO (l.take i ++ l.drop j), [.any], [b], fun _ => [], rfl, ⟨rfl, rfl⟩, rfl, ?_⟩
    have hnl : (l.take i ++ l.drop j).length = len - (j - i) := by simp; omega
    refine ⟨fun k t hk => ?_, fun _ _ => rfl, ?_, fun r r' b' h => by simp at h, fun _ => by simp, by simp, fun r b' h => by simp at h, fun r b' h => by simp at h, fun b' h => .inl ⟨1000000000, ?_⟩, rfl, rfl, rfl, ?_, fun b' hb' hn => ?_⟩
    · have : k = 0 ∧ t = .any := by
        cases k with
        | zero => simpa using hk.symm
        | succ k => simp at hk
      obtain ⟨rfl, rfl⟩ := this
      exact ⟨_, hx, .rd (.any _), .inr rfl⟩
    · have := Ow.arr (w := putRow (Value.int .i64) (Go.Sort.ahead w q) b 0 d) (O := Ob' X (fun _ => []) [b]) 1 ((l.take i ++ l.drop j).map T.i) b (len - (j - i)) cap (putCells (Value.int .i64) 0 d cs) e (List.replicate (len - (j - i)) []) (by rw [hw', if_pos rfl]) (by rw [List.length_map, hnl]; omega) (by omega) hmx (by simp [putCells, hsz]) (by rw [List.length_map, hnl]; simp) (fun k hk => ?_)
      · have e1 : b :: (List.replicate (len - (j - i)) ([] : List Nat)).flatten = [b] := by simp
        rw [e1] at this
        exact this
      · rw [List.length_map] at hk
        have hkl : k < len - (j - i) := by omega
        have e2 : (List.replicate (len - (j - i)) ([] : List Nat)).getD k [] = [] := by
          rw [List.getD_eq_getElem?_getD, List.getElem?_replicate]; split <;> rfl
        rw [e2, List.getElem_map, putCells, getD_mapIdx_lt (by omega), if_pos (by omega)]
        have e3 : d[k - 0]! = (l.take i ++ l.drop j)[k] := by
          rw [Nat.sub_zero, getElem!_pos d k (by omega), ← Array.getElem_toList]
          have := List.getElem_append_left («as» := l.take i ++ l.drop j) (bs := List.replicate (j - i) (0 : Int)) (i := k) (h' := by rw [← hdl, Array.length_toList]; omega) hk
          rw [← this]
          simp only [hdl]
        rw [e3]
        exact .rd (.v _)
    · rw [hfp]; simp at h; rw [h]; simp
    · simp
    · rw [hw', if_neg]
      rintro rfl
      exact hn 1000000000 (by rw [hfp]; simp)
end Go.Ab

/- Contracts: a matrix without a row and a column. -/
set_option linter.unusedSimpArgs false
set_option linter.unusedVariables false
namespace Go.Ab
open Go.Proofs

def without (m : List (List Int)) (r c : Nat) : List (List Int) := (m.eraseIdx r).map fun l => l.eraseIdx c
def withoutI (m : List (List Int)) (r c i : Nat) : List (List Int) := without (m.take i) r c
theorem withoutI_same {m : List (List Int)} {r c i : Nat} {x : List Int} (hx : m[i]? = some x) (h : i = r) : withoutI m r c (i + 1) = withoutI m r c i := by
  obtain ⟨hi, rfl⟩ := List.getElem?_eq_some_iff.1 hx
  have hl : (m.take i).length = i := by simp; omega
  subst h
  rw [withoutI, withoutI, without, without, take_snoc hx, List.eraseIdx_append_of_length_le (by omega), hl, Nat.sub_self]
  rw [List.eraseIdx_of_length_le (l := m.take i) (by omega)]; simp
theorem withoutI_next {m : List (List Int)} {r c i : Nat} {x : List Int} (hx : m[i]? = some x) (h : i ≠ r) : withoutI m r c (i + 1) = withoutI m r c i ++ [x.eraseIdx c] := by
  obtain ⟨hi, rfl⟩ := List.getElem?_eq_some_iff.1 hx
  have hl : (m.take i).length = i := by simp; omega
  rw [withoutI, withoutI, without, without, take_snoc hx]
  rcases Nat.lt_or_ge r i with h1 | h1
  · rw [List.eraseIdx_append_of_lt_length (by omega), List.map_append]; rfl
  · rw [List.eraseIdx_append_of_length_le (by omega), hl, List.eraseIdx_of_length_le (l := m.take i) (by omega), List.eraseIdx_of_length_le (l := [m[i]]) (by simp; omega), List.map_append]; rfl
theorem withoutI_all (m : List (List Int)) (r c : Nat) : withoutI m r c m.length = without m r c := by rw [withoutI, List.take_length]
theorem withoutI_zero (m : List (List Int)) (r c : Nat) : withoutI m r c 0 = [] := by simp [withoutI, without]
theorem withoutI_length (m : List (List Int)) (r c i : Nat) : (withoutI m r c i).length ≤ i := by
  have := List.length_eraseIdx_le (m.take i) r
  simp [withoutI, without] at this ⊢; omega
theorem eraseIdx_cut (l : List Int) (c : Nat) : l.eraseIdx c = l.take c ++ l.drop (c + 1) := List.eraseIdx_eq_take_drop_succ l c

theorem impl_without_ok (m : List (List Int)) (r c : Nat) (hm : m.length ≤ 1000000) (hrow : ∀ x ∈ m, c < x.length ∧ x.length ≤ 1000000) (hr : r ≤ 1000000) : Fun Try.prog 118 [] [.t (rows m), .t (.i r), .t (.i c)] fun o res => o = [] ∧ res = rowsO (without m r c) := by
  refine fun_impl_without (by simp) ?_
  simp -implicitDefEqProofs only [go_sem, evR, ints, rows, rat, rats, c_impl_without]
  refine SemC.loopR (σ := Nat) (fun i => St.of [(0, .t (rows m)), (1, .t (.i r)), (2, .t (.i c)), (7, .own 77), (10, .t (rows m)), (11, .t (.i m.length)), (12, .t (.i i))] [(77, .arr 1 ((withoutI m r c i).map intsO))]) (fun i => i ≤ m.length) (fun i => m.length - i) 0 (Weak.of _ _ [none] (by simp) (by simp) ?_ ?_) (by simp) fun i hi R hn hr' he => ?_
  · simp -implicitDefEqProofs only [ints, rows, Nat.reduceBEq, wkR, Nat.reduceEqDiff, ↓reduceIte, wrR]
  · exact ⟨⟨1, by rw [withoutI_zero]; rfl⟩, trivial⟩
  · simp -implicitDefEqProofs only [go_sem, evR, ints, rows, rat, rats]
    refine ⟨fun h => ⟨by omega, by omega, by omega, fun x hx => ⟨fun h1 => ?_, fun h1 => ?_⟩⟩, fun h => he _ _ ?_⟩
    · have hne : i ≠ r := by simp at h1; omega
      have hxl := hrow x (List.mem_of_getElem? hx)
      refine CallW.res (slices_Clone_ok x (by omega)) [] rfl Try.call127 ?_ (.inl rfl) ?_
      · simp -implicitDefEqProofs only [agR, Nat.reduceLeDiff, Nat.reduceSub, vaR, go_sem, ints, rows, rat, rats, ratsO, rtR, intsO, rowsO]
      simp -implicitDefEqProofs only [clR, Nat.reduceLeDiff, go_sem, evR, rat]
      rw [wrap64 (n := (c : Int) + 1) (by omega) (by omega), show ((c : Int) + 1) = ((c + 1 : Nat) : Int) from rfl]
      refine CallW.ref (slices_Delete_ok x c (c + 1) (by omega) (by omega)) [22] [] rfl Try.call126 (by simp) ?_ (by simp) ?_ (.inl rfl) ?_
      · simp -implicitDefEqProofs only [srR, Nat.reduceEqDiff, ↓reduceIte, ints, rows, intsO, rowsO]
      · simp -implicitDefEqProofs only [agR, Nat.reduceLeDiff, Nat.reduceSub, vaR, go_sem, ints, rows, rat, rats, ratsO, rtR, intsO, rowsO]
      simp -implicitDefEqProofs only [clR, Nat.reduceLeDiff, go_sem, evR, rat, intsO]
      have hlen := withoutI_length m r c i
      refine ⟨by omega, hn _ (i + 1) (Weak.of _ _ [some 28] (by simp) (by simp) ?_ ?_) (by omega) (by omega)⟩
      · simp -implicitDefEqProofs only [ints, rows, Nat.reduceBEq, wkR, Nat.reduceEqDiff, ↓reduceIte, wrR, next64 (by omega : i < m.length) (by omega)]
      · refine ⟨⟨_, rfl, ?_⟩, rfl, trivial⟩
        rw [withoutI_next hx hne, eraseIdx_cut]
        simp only [List.map_append, List.map_cons, List.map_nil, intsO]
        exact .refl _
    · have heq : i = r := by simp at h1; omega
      refine hn _ (i + 1) (Weak.of _ _ [some 77] (by simp) (by simp) ?_ ?_) (by omega) (by omega)
      · simp -implicitDefEqProofs only [ints, rows, Nat.reduceBEq, wkR, Nat.reduceEqDiff, ↓reduceIte, wrR, next64 (by omega : i < m.length) (by omega)]
      · exact ⟨⟨_, rfl, by rw [withoutI_same hx heq]; exact .refl _⟩, rfl, trivial⟩
    · simp -implicitDefEqProofs only [go_sem, evR, ints, rows, rat, rats]
      have : i = m.length := by omega
      rw [this, withoutI_all]; rfl

end Go.Ab

/- Contracts: determinants. -/
set_option linter.unusedSimpArgs false
set_option linter.unusedVariables false
namespace Go.Ab
open Go.Proofs

def sumTo (f : Nat → Int) : Nat → Int
  | 0 => 0
  | k + 1 => sumTo f k + f k
def sg (k : Nat) : Int := 1 - 2 * ((k % 2 : Nat) : Int)
def detN : Nat → List (List Int) → Int
  | 0, _ => 1
  | n + 1, m => sumTo (fun k => sg k * (m.headD []).getD k 0 * detN n (without m 0 k)) (n + 1)
def sq (n : Nat) (m : List (List Int)) : Prop := m.length = n ∧ ∀ r ∈ m, r.length = n ∧ ∀ x ∈ r, -20 ≤ x ∧ x ≤ 20
theorem mem_eraseIdx {α : Type} {l : List α} {i : Nat} {x : α} (h : x ∈ l.eraseIdx i) : x ∈ l := (List.eraseIdx_sublist l i).subset h
theorem sq_without {n : Nat} {m : List (List Int)} (h : sq (n + 1) m) {r c : Nat} (hr : r < n + 1) (hc : c < n + 1) : sq n (without m r c) := by
  refine ⟨?_, fun x hx => ?_⟩
  · rw [without, List.length_map, List.length_eraseIdx_of_lt (by rw [h.1]; exact hr), h.1]; rfl
  · obtain ⟨y, hy, rfl⟩ := List.mem_map.1 hx
    obtain ⟨h1, h2⟩ := h.2 y (mem_eraseIdx hy)
    exact ⟨by rw [List.length_eraseIdx_of_lt (by rw [h1]; exact hc), h1]; rfl, fun z hz => h2 z (mem_eraseIdx hz)⟩
def detB : Nat → Nat
  | 0 => 1
  | n + 1 => (n + 1) * (20 * detB n)
theorem sg_abs (k : Nat) : sg k = 1 ∨ sg k = -1 := by
  rcases Nat.mod_two_eq_zero_or_one k with h | h <;> simp [sg, h]
theorem sumTo_abs {f : Nat → Int} {b : Nat} : ∀ {k : Nat}, (∀ j, j < k → (f j).natAbs ≤ b) → (sumTo f k).natAbs ≤ k * b
  | 0, _ => by simp [sumTo]
  | k + 1, h => by
    have h1 := sumTo_abs (k := k) fun j hj => h j (by omega)
    have h2 := h k (by omega)
    have := Int.natAbs_add_le (sumTo f k) (f k)
    rw [sumTo, Nat.add_mul]; omega
theorem head_small {n : Nat} {m : List (List Int)} (h : sq (n + 1) m) (k : Nat) (hk : k < n + 1) : ∃ r, m[0]? = some r ∧ m.headD [] = r ∧ r.length = n + 1 ∧ ∃ x, r[k]? = some x ∧ r.getD k 0 = x ∧ -20 ≤ x ∧ x ≤ 20 := by
  obtain ⟨h1, h2⟩ := h
  match m, h1 with
  | r :: m, _ =>
    obtain ⟨h3, h4⟩ := h2 r (by simp)
    refine ⟨r, rfl, rfl, h3, r[k]'(by omega), List.getElem?_eq_getElem (by omega), ?_, h4 _ (List.getElem_mem _)⟩
    rw [List.getD_eq_getElem?_getD, List.getElem?_eq_getElem (by omega)]; rfl
theorem detN_abs : ∀ {n : Nat} {m : List (List Int)}, sq n m → (detN n m).natAbs ≤ detB n
  | 0, m, _ => by simp [detN, detB]
  | n + 1, m, h => by
    rw [detN, detB]
    refine sumTo_abs fun k hk => ?_
    obtain ⟨r, _, h1, _, x, _, h2, h3, h4⟩ := head_small h k hk
    have h5 := detN_abs (sq_without h (r := 0) (c := k) (by omega) hk)
    rw [h1, h2, Int.natAbs_mul, Int.natAbs_mul]
    have h6 : (sg k).natAbs = 1 := by rcases sg_abs k with h | h <;> rw [h] <;> rfl
    rw [h6, Nat.one_mul]
    exact Nat.mul_le_mul (by omega) h5
theorem detB_le {n : Nat} (h : n ≤ 4) : detB n ≤ 3840000 := by
  match n, h with
  | 0, _ => decide
  | 1, _ => decide
  | 2, _ => decide
  | 3, _ => decide
  | 4, _ => decide
theorem term_abs {n : Nat} {m : List (List Int)} (h : sq (n + 1) m) (hn : n < 4) {k : Nat} (hk : k < n + 1) {x : Int} (hx : -20 ≤ x ∧ x ≤ 20) : -76800000 ≤ x * detN n (without m 0 k) ∧ x * detN n (without m 0 k) ≤ 76800000 := by
  have h5 := detN_abs (sq_without h (r := 0) (c := k) (by omega) hk)
  have h6 := detB_le (n := n) (by omega)
  have h7 : (x * detN n (without m 0 k)).natAbs ≤ 20 * 3840000 := by
    rw [Int.natAbs_mul]; exact Nat.mul_le_mul (by omega) (by omega)
  omega
theorem part_abs {n : Nat} {m : List (List Int)} (h : sq (n + 1) m) (hn : n < 4) {k : Nat} (hk : k ≤ n + 1) : -400000000 ≤ sumTo (fun k => sg k * (m.headD []).getD k 0 * detN n (without m 0 k)) k ∧ sumTo (fun k => sg k * (m.headD []).getD k 0 * detN n (without m 0 k)) k ≤ 400000000 := by
  have h1 := sumTo_abs (f := fun k => sg k * (m.headD []).getD k 0 * detN n (without m 0 k)) (b := 76800000) (k := k) fun j hj => by
    obtain ⟨r, _, e1, _, x, _, e2, h3⟩ := head_small h j (by omega)
    have := term_abs h hn (show j < n + 1 by omega) h3
    rw [e1, e2, Int.mul_assoc, Int.natAbs_mul]
    have h6 : (sg j).natAbs = 1 := by rcases sg_abs j with h | h <;> rw [h] <;> rfl
    rw [h6, Nat.one_mul]; omega
  have h2 : k * 76800000 ≤ 4 * 76800000 := Nat.mul_le_mul_right _ (by omega)
  omega
theorem tmod2 (k : Nat) : (k : Int).tmod 2 = ((k % 2 : Nat) : Int) := by
  rw [Int.tmod_eq_emod_of_nonneg (by omega)]; rfl

theorem impl_determinant_ok : ∀ (n : Nat), n ≤ 4 → ∀ m, sq n m → Pure Try.prog 103 [rows m] (.i (detN n m)) := by
  intro n
  induction n with
  | zero =>
    intro _ m hm
    refine fun_impl_determinant (by simp) ?_
    simp -implicitDefEqProofs only [go_sem, evR, ints, rows, rat, rats, c_impl_determinant]
    refine ⟨fun h => rfl, fun h => absurd hm.1 (by simpa using h)⟩
  | succ n ih =>
    intro hn m hm
    refine fun_impl_determinant (by simp) ?_
    simp -implicitDefEqProofs only [go_sem, evR, ints, rows, rat, rats, c_impl_determinant]
    have hml : m.length = n + 1 := hm.1
    refine ⟨fun h => absurd h (by simp [hml]; omega), fun h => ⟨by omega, by omega, fun r0 h0 => ?_⟩⟩
    obtain ⟨r, e1, e2, e3, _⟩ := head_small hm 0 (by omega)
    rw [h0] at e1; cases e1
    rw [e3]
    have hpart := fun k (hk : k ≤ n + 1) => part_abs hm (by omega) hk
    have hterm := fun k (hk : k < n + 1) x (hx : -20 ≤ x ∧ x ≤ 20) => term_abs hm (by omega) hk hx
    have hfin : detN (n + 1) m = sumTo (fun k => sg k * (m.headD []).getD k 0 * detN n (without m 0 k)) (n + 1) := rfl
    rw [hfin]
    rw [e2] at hpart ⊢
    generalize hS : (fun k => sg k * r0.getD k 0 * detN n (without m 0 k)) = f at hpart ⊢
    refine SemC.loopR (σ := Nat) (fun k => St.of [(0, .t (rows m)), (3, .t (.i (sumTo f k))), (12, .t (ints r0)), (13, .t (.i (n + 1 : Nat))), (14, .t (.i k))] []) (fun k => k ≤ n + 1) (fun k => n + 1 - k) 0 (Weak.of _ [] [] (by simp) (by simp) ?_ trivial) (by omega) fun k hk R hn' hr he => ?_
    · simp -implicitDefEqProofs only [ints, rows, wkR, Nat.reduceEqDiff, ↓reduceIte, sumTo]
    · simp -implicitDefEqProofs only [go_sem, evR, ints, rows, rat, rats]
      refine ⟨fun h => ⟨by omega, by omega, by omega, fun x hx => ?_⟩, fun h => he _ _ ?_⟩
      · have hk1 : k < n + 1 := by omega
        have hsx := (hm.2 r0 (List.mem_of_getElem? h0)).2 x (List.mem_of_getElem? hx)
        have hxd : r0.getD k 0 = x := by rw [List.getD_eq_getElem?_getD, hx]; rfl
        have ht := hterm k hk1 x hsx
        have hp1 := hpart k hk
        have hp2 := hpart (k + 1) hk1
        have hf : f k = sg k * x * detN n (without m 0 k) := by rw [← hS]; simp only [hxd]
        rw [sumTo, hf] at hp2
        refine CallW.res (impl_without_ok m 0 k (by omega) (fun y hy => by have := (hm.2 y hy).1; omega) (by omega)) [] rfl Try.call118 ?_ (.inl rfl) ?_
        · simp -implicitDefEqProofs only [agR, Nat.reduceLeDiff, Nat.reduceSub, vaR, go_sem, ints, rows, rat, rats, ratsO, rtR, intsO, rowsO]
        simp -implicitDefEqProofs only [clR, Nat.reduceLeDiff, go_sem, evR, rat]
        refine CallW.pure (ih (by omega) (without m 0 k) (sq_without hm (by omega) hk1)) [22] rfl Try.call103 ?_ (by first | trivial | simp [T.noSh, T.noShL, rat]) rfl ?_
        · simp -implicitDefEqProofs only [agR, Nat.reduceLeDiff, Nat.reduceSub, vaR, go_sem, ints, rows, rat, rats, ratsO, rtR, intsO, rowsO]
        simp -implicitDefEqProofs only [go_sem, evR, ints, rows, rat, rats]
        rw [wrap64 (n := x * detN n (without m 0 k)) (by omega) (by omega)]
        refine ⟨?_, fun h1 => ?_, fun h1 => ?_⟩
        · decide
        · have hodd : k % 2 = 1 := by rw [tmod2] at h1; simp at h1; omega
          have hs : sg k = -1 := by simp [sg, hodd]
          have e1 : sg k * x * detN n (without m 0 k) = -(x * detN n (without m 0 k)) := by rw [hs, Int.neg_one_mul, Int.neg_mul]
          rw [e1] at hp2 hf
          refine hn' _ (k + 1) (Weak.of _ [] [] (by simp) (by simp) ?_ trivial) (by omega) (by omega)
          have w1 : IntKind.i64.wrap (0 - x * detN n (without m 0 k)) = -(x * detN n (without m 0 k)) := by rw [wrap64 (by omega) (by omega)]; omega
          have w2 : IntKind.i64.wrap (sumTo f k + -(x * detN n (without m 0 k))) = sumTo f (k + 1) := by rw [wrap64 (by omega) (by omega), sumTo, hf]
          simp -implicitDefEqProofs only [ints, rows, wkR, Nat.reduceEqDiff, ↓reduceIte, w1, w2, next64 (by omega : k < n + 1) (by omega)]
        · have hev : k % 2 = 0 := by rw [tmod2] at h1; simp at h1; omega
          have hs : sg k = 1 := by simp [sg, hev]
          have e1 : sg k * x * detN n (without m 0 k) = x * detN n (without m 0 k) := by rw [hs, Int.one_mul]
          rw [e1] at hp2 hf
          refine hn' _ (k + 1) (Weak.of _ [] [] (by simp) (by simp) ?_ trivial) (by omega) (by omega)
          have w2 : IntKind.i64.wrap (sumTo f k + x * detN n (without m 0 k)) = sumTo f (k + 1) := by rw [wrap64 (by omega) (by omega), sumTo, hf]
          simp -implicitDefEqProofs only [ints, rows, wkR, Nat.reduceEqDiff, ↓reduceIte, w2, next64 (by omega : k < n + 1) (by omega)]
      · simp -implicitDefEqProofs only [go_sem, evR, ints, rows, rat, rats]
        have : k = n + 1 := by omega
        rw [this]

end Go.Ab

/- Contracts: adjugates. -/
set_option linter.unusedSimpArgs false
set_option linter.unusedVariables false
namespace Go.Ab
open Go.Proofs

def parts (full : Nat → List Int) (cur : List Int) (n i : Nat) : List (List Int) := (List.range n).map fun j => if j < i then full j else if j = i then cur else []
theorem parts_length (full : Nat → List Int) (cur : List Int) (n i : Nat) : (parts full cur n i).length = n := by simp [parts]
theorem parts_get {full : Nat → List Int} {cur : List Int} {n i : Nat} (h : i < n) : (parts full cur n i)[i]? = some cur := by simp [parts, h]
theorem parts_set {full : Nat → List Int} {cur : List Int} {n i : Nat} (cur' : List Int) (h : i < n) : (parts full cur n i).set i cur' = parts full cur' n i := by
  refine List.ext_getElem? fun j => ?_
  rw [List.getElem?_set]
  by_cases hj : i = j
  · subst hj
    rw [if_pos rfl, if_pos (by rw [parts_length]; exact h), parts_get h]
  · rw [if_neg hj]
    simp only [parts, List.getElem?_map]
    by_cases hjn : j < n
    · rw [List.getElem?_range hjn]; simp only [Option.map_some, if_neg (Ne.symm hj)]
    · rw [List.getElem?_eq_none (by simpa using hjn)]; rfl
theorem parts_zero (full : Nat → List Int) (n : Nat) : parts full [] n 0 = List.replicate n [] := by
  refine List.ext_getElem? fun j => ?_
  simp only [parts, List.getElem?_map, List.getElem?_replicate]
  by_cases hjn : j < n
  · rw [List.getElem?_range hjn, if_pos hjn]; simp
  · rw [List.getElem?_eq_none (by simpa using hjn), if_neg hjn]; rfl
theorem parts_next {full : Nat → List Int} {cur : List Int} {n i : Nat} (h : full i = cur) : parts full cur n i = parts full [] n (i + 1) := by
  refine List.map_congr_left fun j _ => ?_
  by_cases h1 : j < i
  · rw [if_pos h1, if_pos (by omega)]
  · by_cases h2 : j = i
    · subst h2; rw [if_neg h1, if_pos rfl, if_pos (by omega), h]
    · rw [if_neg h1, if_neg h2, if_neg (by omega)]
      split <;> rfl
theorem parts_all (full : Nat → List Int) (cur : List Int) (n : Nat) : parts full cur n n = (List.range n).map full := by
  refine List.map_congr_left fun j hj => ?_
  rw [if_pos (by simpa using hj)]

def adjRow (n : Nat) (m : List (List Int)) (i k : Nat) : List Int := (List.range k).map fun j => sg (i + j) * detN (n - 1) (without m j i)
def adjM (n : Nat) (m : List (List Int)) : List (List Int) := (List.range n).map fun i => adjRow n m i n
theorem adjRow_succ (n : Nat) (m : List (List Int)) (i k : Nat) : adjRow n m i (k + 1) = adjRow n m i k ++ [sg (i + k) * detN (n - 1) (without m k i)] := by
  simp only [adjRow, List.range_succ, List.map_append, List.map_cons, List.map_nil]
theorem adjRow_zero (n : Nat) (m : List (List Int)) (i : Nat) : adjRow n m i 0 = [] := rfl
theorem adjRow_length (n : Nat) (m : List (List Int)) (i k : Nat) : (adjRow n m i k).length = k := by simp [adjRow]
theorem minor_abs {n : Nat} {m : List (List Int)} (h : sq n m) (hn : n ≤ 4) {i k : Nat} (hi : i < n) (hk : k < n) : sq (n - 1) (without m k i) ∧ -3840000 ≤ detN (n - 1) (without m k i) ∧ detN (n - 1) (without m k i) ≤ 3840000 := by
  obtain ⟨p, rfl⟩ : ∃ p, n = p + 1 := ⟨n - 1, by omega⟩
  have h1 := sq_without h hk hi
  have h2 := detN_abs h1
  have h3 := detB_le (n := p) (by omega)
  exact ⟨h1, by simp only [Nat.add_sub_cancel]; omega, by simp only [Nat.add_sub_cancel]; omega⟩

theorem impl_adjugate_ok (n : Nat) (hn : n ≤ 4) (m : List (List Int)) (hm : sq n m) : Fun Try.prog 100 [] [.t (rows m)] fun o r => o = [] ∧ r = rowsO (adjM n m) := by
  refine fun_impl_adjugate (by simp) ?_
  simp -implicitDefEqProofs only [go_sem, evR, ints, rows, rat, rats, c_impl_adjugate]
  have hml : m.length = n := hm.1
  rw [hml]
  refine ⟨by omega, by omega, ?_⟩
  have hfull : ∀ i, (fun i => adjRow n m i n) i = adjRow n m i n := fun _ => rfl
  refine SemC.loopR (σ := Nat) (fun i => St.of [(0, .t (rows m)), (3, .own 9), (11, .t (.i n)), (12, .t (.i i))] [(9, .arr 1 ((parts (fun i => adjRow n m i n) [] n i).map intsO))]) (fun i => i ≤ n) (fun i => n - i) 0 (Weak.of _ _ [some 9] (by simp) (by simp) ?_ ?_) (by simp) fun i hi R hn' hr' he => ?_
  · simp -implicitDefEqProofs only [ints, rows, Nat.reduceBEq, wkR, Nat.reduceEqDiff, ↓reduceIte, wrR]
  · exact ⟨⟨_, rfl, by rw [made_one, parts_zero]; exact le_nils _⟩, rfl, trivial⟩
  · simp -implicitDefEqProofs only [go_sem, evR, ints, rows, rat, rats]
    refine ⟨fun h => ?_, fun h => he _ _ ?_⟩
    · rw [hml]
      refine SemC.loopR (σ := Nat) (fun k => St.of [(0, .t (rows m)), (3, .own 9), (4, .t (.i i)), (11, .t (.i n)), (12, .t (.i i)), (16, .t (.i n)), (17, .t (.i k))] [(9, .arr 1 ((parts (fun i => adjRow n m i n) (adjRow n m i k) n i).map intsO))]) (fun k => k ≤ n) (fun k => n - k) 0 (Weak.of _ _ [some 9] (by simp) (by simp) ?_ ?_) (by simp) fun k hk R2 hn2 hr2 he2 => ?_
      · simp -implicitDefEqProofs only [ints, rows, Nat.reduceBEq, wkR, Nat.reduceEqDiff, ↓reduceIte, wrR]
      · exact ⟨⟨_, rfl, by rw [adjRow_zero]; exact .refl _⟩, rfl, trivial⟩
      · have hin : i < n := by omega
        have hlen := parts_length (fun i => adjRow n m i n) (adjRow n m i k) n i
        simp -implicitDefEqProofs only [go_sem, evR, ints, rows, rat, rats, hlen, intsO]
        refine ⟨fun h1 => ?_, fun h1 => he2 _ _ ?_⟩
        · have hkn : k < n := by omega
          obtain ⟨q1, q2, q3⟩ := minor_abs hm hn hin hkn
          refine CallW.res (impl_without_ok m k i (by omega) (fun y hy => by have := (hm.2 y hy).1; omega) (by omega)) [] rfl Try.call118 ?_ (.inl rfl) ?_
          · simp -implicitDefEqProofs only [agR, Nat.reduceLeDiff, Nat.reduceSub, vaR, go_sem, ints, rows, rat, rats, ratsO, rtR, intsO, rowsO]
          simp -implicitDefEqProofs only [clR, Nat.reduceLeDiff, go_sem, evR, rat]
          refine CallW.pure (impl_determinant_ok (n - 1) (by omega) (without m k i) q1) [23] rfl Try.call103 ?_ (by first | trivial | simp [T.noSh, T.noShL, rat]) rfl ?_
          · simp -implicitDefEqProofs only [agR, Nat.reduceLeDiff, Nat.reduceSub, vaR, go_sem, ints, rows, rat, rats, ratsO, rtR, intsO, rowsO]
          simp -implicitDefEqProofs only [go_sem, evR, ints, rows, rat, rats, intsO, hlen]
          have hw : IntKind.i64.wrap ((i : Int) + (k : Int)) = ((i + k : Nat) : Int) := by rw [wrap64 (by omega) (by omega)]; rfl
          rw [hw, tmod2]
          have hs1 : (i + k) % 2 = 1 → sg (i + k) = -1 := fun h => by simp [sg, h]
          have hs0 : (i + k) % 2 = 0 → sg (i + k) = 1 := fun h => by simp [sg, h]
          refine ⟨by decide, fun h2 => ⟨by omega, by omega, by omega, fun q hq => ?_⟩, fun h2 => ⟨by omega, by omega, by omega, fun q hq => ?_⟩⟩
          · have hodd : (i + k) % 2 = 1 := by simp at h2; omega
            rw [parts_get hin] at hq; cases hq
            have hw1 : IntKind.i64.wrap (0 - detN (n - 1) (without m k i)) = sg (i + k) * detN (n - 1) (without m k i) := by rw [wrap64 (by omega) (by omega), hs1 hodd, Int.neg_one_mul]; omega
            refine ⟨by simp only [List.length_map, adjRow_length]; omega, by omega, by omega, by omega, hn2 _ (k + 1) (Weak.of _ _ [some 9] (by simp) (by simp) ?_ ?_) (by omega) (by omega)⟩
            · simp -implicitDefEqProofs only [ints, rows, Nat.reduceBEq, wkR, Nat.reduceEqDiff, ↓reduceIte, wrR, next64 (by omega : k < n) (by omega)]
            · refine ⟨⟨_, rfl, ?_⟩, rfl, trivial⟩
              rw [← parts_set (adjRow n m i (k + 1)) hin, adjRow_succ, hw1]
              simp only [List.map_append, List.map_cons, List.map_nil, intsO, List.map_set]
              exact .refl _
          · have hev : (i + k) % 2 = 0 := by simp at h2; omega
            rw [parts_get hin] at hq; cases hq
            have hw1 : detN (n - 1) (without m k i) = sg (i + k) * detN (n - 1) (without m k i) := by rw [hs0 hev, Int.one_mul]
            refine ⟨by simp only [List.length_map, adjRow_length]; omega, by omega, by omega, by omega, hn2 _ (k + 1) (Weak.of _ _ [some 9] (by simp) (by simp) ?_ ?_) (by omega) (by omega)⟩
            · simp -implicitDefEqProofs only [ints, rows, Nat.reduceBEq, wkR, Nat.reduceEqDiff, ↓reduceIte, wrR, next64 (by omega : k < n) (by omega)]
            · refine ⟨⟨_, rfl, ?_⟩, rfl, trivial⟩
              rw [← parts_set (adjRow n m i (k + 1)) hin, adjRow_succ, ← hw1]
              simp only [List.map_append, List.map_cons, List.map_nil, intsO, List.map_set]
              exact .refl _
        · simp -implicitDefEqProofs only [go_sem, evR, ints, rows, rat, rats]
          have : k = n := by omega
          refine hn' _ (i + 1) (Weak.of _ _ [some 9] (by simp) (by simp) ?_ ?_) (by omega) (by omega)
          · simp -implicitDefEqProofs only [ints, rows, Nat.reduceBEq, wkR, Nat.reduceEqDiff, ↓reduceIte, wrR, next64 (by omega : i < n) (by omega)]
          · exact ⟨⟨_, rfl, by rw [parts_next (by rw [this])]; exact .refl _⟩, rfl, trivial⟩
    · simp -implicitDefEqProofs only [go_sem, evR, ints, rows, rat, rats]
      have : i = n := by omega
      rw [this, parts_all]; rfl

end Go.Ab

/- Contracts: Determinant and Adjugate; the law FnExactDeterminant. -/
set_option linter.unusedSimpArgs false
set_option linter.unusedVariables false
namespace Go.Ab
open Go.Proofs

theorem headD_get {m : List (List Int)} {r : List Int} (h : m[0]? = some r) : m.headD [] = r := by
  cases m with
  | nil => simp at h
  | cons a m => simpa using h
end Go.Ab

/- Contracts: sums of products of ratios, gains; the program's. -/
set_option linter.unusedSimpArgs false
set_option linter.unusedVariables false
namespace Go.Ab
open Go.Proofs

theorem impl_MultiplyRatios_p (a b : Int × Int) : Pure Try.prog 122 [rat a, rat b] (redT (mulR a b)) := impl_MultiplyRatios_ok a b
theorem impl_AddRatios_p (a b : Int × Int) : Pure Try.prog 111 [rat a, rat b] (redT (addR a b)) := impl_AddRatios_ok a b

def spGo : Int × Int → List ((Int × Int) × (Int × Int)) → (Int × Int) × Int
  | s, [] => (s, 0)
  | s, x :: l => if (mulR x.1 x.2).2 ≠ 0 then ((0, 0), (mulR x.1 x.2).2) else if (addR s (mulR x.1 x.2).1).2 ≠ 0 then ((0, 0), (addR s (mulR x.1 x.2).1).2) else spGo (addR s (mulR x.1 x.2).1).1 l
def spR (a b : List (Int × Int)) : (Int × Int) × Int := spGo (0, 1) (a.zip b)
theorem zip_get {α β : Type} {a : List α} {b : List β} {i : Nat} {x : α} {y : β} (hx : a[i]? = some x) (hy : b[i]? = some y) : (a.zip b)[i]? = some (x, y) := by
  rw [List.getElem?_zip_eq_some]; exact ⟨hx, hy⟩

theorem impl_sumOfProducts_ok (a b : List (Int × Int)) (hab : a.length ≤ b.length) (ha : a.length ≤ 1000000000000) : Pure Try.prog 114 [rats a, rats b] (redT (spR a b)) := by
  refine fun_impl_sumOfProducts (by simp) ?_
  simp -implicitDefEqProofs only [go_sem, evR, ints, rows, rat, rats, c_impl_sumOfProducts]
  refine SemC.loopR (σ := Nat × (Int × Int)) (fun s => St.of [(0, .t (rats a)), (1, .t (rats b)), (4, .own 4), (6, .own 6), (12, .t (.i a.length)), (13, .t (.i s.1))] [(4, .box [.i 0, .i 0]), (6, .box [.i s.2.1, .i s.2.2])]) (fun s => s.1 ≤ a.length ∧ spGo s.2 ((a.zip b).drop s.1) = spR a b) (fun s => a.length - s.1) (0, (0, 1)) (Weak.of _ _ [some 4, some 6] (by simp) (by simp) ?_ ?_) ⟨by simp, rfl⟩ fun s hI R hn hr he => ?_
  · simp -implicitDefEqProofs only [ints, rows, Nat.reduceBEq, wkR, Nat.reduceEqDiff, ↓reduceIte, wrR, rats]
  · exact ⟨⟨_, rfl, .refl _⟩, rfl, ⟨_, rfl, .refl _⟩, rfl, trivial⟩
  · obtain ⟨i, s1, s2⟩ := s
    obtain ⟨hi, hm⟩ := hI
    (try simp only [] at hi hm)
    simp -implicitDefEqProofs only [go_sem, evR, ints, rows, rat, rats]
    refine ⟨fun h => ?_, fun h => he _ _ ?_⟩
    · obtain ⟨x, hx⟩ : ∃ x, a[i]? = some x := ⟨_, List.getElem?_eq_getElem (by omega)⟩
      obtain ⟨y, hy⟩ : ∃ y, b[i]? = some y := ⟨_, List.getElem?_eq_getElem (by omega)⟩
      refine ⟨by omega, by rw [ratC_length]; omega, by rw [ratC_length]; omega, by omega, by rw [ratC_length]; omega, by rw [ratC_length]; omega, ?_⟩
      rw [ratC_at hx, ratC_at hy]
      rw [drop_of_get (zip_get hx hy), spGo] at hm
      refine CallV.pure (impl_MultiplyRatios_p x y) [] rfl Try.call122 (fun e R' hR => ?_) (by first | trivial | simp [T.noSh, T.noShL, rat]) (fun _ => rfl) ?_
      · simp -implicitDefEqProofs only [agR, Nat.reduceLeDiff, Nat.reduceSub, vaR, go_sem, ints, rows, rat, rats, ratsO, rtR, intsO, rowsO]
      simp -implicitDefEqProofs only [go_sem, evR, ints, rows, rat, rats, redT]
      refine ⟨fun h1 => hr _ ?_, fun h1 => ?_⟩
      · have h1 : (mulR x y).2 ≠ 0 := by simpa using h1
        simp -implicitDefEqProofs only [go_sem, evR, ints, rows, rat, rats]
        rw [← hm, if_pos h1]; rfl
      · have h1 : (mulR x y).2 = 0 := by simpa using h1
        rw [if_neg (by simp [h1])] at hm
        refine CallW.pure (impl_AddRatios_p (s1, s2) (mulR x y).1) [] rfl Try.call111 ?_ (by first | trivial | simp [T.noSh, T.noShL, rat]) rfl ?_
        · simp -implicitDefEqProofs only [agR, Nat.reduceLeDiff, Nat.reduceSub, vaR, go_sem, ints, rows, rat, rats, ratsO, rtR, intsO, rowsO]
        simp -implicitDefEqProofs only [go_sem, evR, ints, rows, rat, rats, redT]
        refine ⟨fun h2 => hr _ ?_, fun h2 => ?_⟩
        · have h2 : (addR (s1, s2) (mulR x y).1).2 ≠ 0 := by simpa using h2
          simp -implicitDefEqProofs only [go_sem, evR, ints, rows, rat, rats]
          rw [← hm, if_pos h2]; rfl
        · have h2 : (addR (s1, s2) (mulR x y).1).2 = 0 := by simpa using h2
          rw [if_neg (by simp [h2])] at hm
          refine hn _ (i + 1, (addR (s1, s2) (mulR x y).1).1) (Weak.of _ _ [some 4, some 6] (by simp) (by simp) ?_ ?_) ⟨by simp only []; omega, hm⟩ (by simp only []; omega)
          · simp -implicitDefEqProofs only [ints, rows, Nat.reduceBEq, wkR, Nat.reduceEqDiff, ↓reduceIte, wrR, rats, next64 (by omega : i < a.length) ha]
          · exact ⟨⟨_, rfl, .refl _⟩, rfl, ⟨_, rfl, .refl _⟩, rfl, trivial⟩
    · simp -implicitDefEqProofs only [go_sem, evR, ints, rows, rat, rats]
      rw [List.drop_of_length_le (by rw [List.length_zip]; omega), spGo] at hm
      rw [← hm]; rfl
end Go.Ab

/- Contracts: sums of products of ratios, gains; the reference's. -/
set_option linter.unusedSimpArgs false
set_option linter.unusedVariables false
namespace Go.Ab
open Go.Proofs

def ones (r : List Int) : List (Int × Int) := r.map fun x => (x, 1)
theorem ones_length (r : List Int) : (ones r).length = r.length := by simp [ones]
theorem ones_get {r : List Int} {i : Nat} {x : Int} (h : r[i]? = some x) : (ones r)[i]? = some (x, 1) := by simp [ones, h]
end Go.Ab

/- Contracts: gains of all rows; the program's. -/
set_option linter.unusedSimpArgs false
set_option linter.unusedVariables false
namespace Go.Ab
open Go.Proofs

def gainsGo (q : List (Int × Int)) : List (List Int) → List (Int × Int) × Int
  | [] => ([], 0)
  | r :: m => if (spR q (ones r)).2 ≠ 0 then ([], (spR q (ones r)).2) else if (gainsGo q m).2 ≠ 0 then ([], (gainsGo q m).2) else ((spR q (ones r)).1 :: (gainsGo q m).1, 0)
def gjoin (g : List (Int × Int)) (x : List (Int × Int) × Int) : List (Int × Int) × Int := if x.2 ≠ 0 then ([], x.2) else (g ++ x.1, 0)
theorem gainsGo_err (q : List (Int × Int)) : ∀ (m : List (List Int)), (gainsGo q m).2 ≠ 0 → (gainsGo q m).1 = []
  | [], h => absurd rfl h
  | r :: m, h => by
    rw [gainsGo] at h ⊢
    split
    · rfl
    · rename_i h1
      rw [if_neg h1] at h
      split
      · rfl
      · rename_i h2; rw [if_neg h2] at h; exact absurd rfl h
theorem gjoin_nil (q : List (Int × Int)) (m : List (List Int)) : gjoin [] (gainsGo q m) = gainsGo q m := by
  rw [gjoin]; split
  · rename_i h; rw [← gainsGo_err q m h]
  · rename_i h
    have : (gainsGo q m).2 = 0 := by omega
    rw [List.nil_append, ← this]
theorem gainsGo_length (q : List (Int × Int)) : ∀ (m : List (List Int)), (gainsGo q m).2 = 0 → (gainsGo q m).1.length = m.length
  | [], h => rfl
  | r :: m, h => by
    rw [gainsGo] at h ⊢
    split at h
    · rename_i h1; exact absurd h h1
    · rename_i h1
      rw [if_neg h1]
      split at h
      · rename_i h2; exact absurd h h2
      · rename_i h2
        rw [if_neg h2, List.length_cons, List.length_cons, gainsGo_length q m (by omega)]
def gT (x : List (Int × Int) × Int) : T := .tup [ratsO x.1, .i x.2]
theorem gT_noSh (x : List (Int × Int) × Int) : (gT x).noSh := ⟨ratsO_noSh _, trivial, trivial⟩
theorem Fun.gT_nil {P : Program} {f : FuncId} {rin : List T} {args : List A} {x : List (Int × Int) × Int} {o0 : List T} (h : Fun P f rin args fun o r => o = o0 ∧ (r = gT x ∨ (x.1 = [] ∧ r = .tup [.v (.slice none 0 0), .i x.2]))) : Fun P f rin args fun o r => o = o0 ∧ r = gT x := by
  refine Fun.le h ?_
  rintro o r ⟨rfl, rfl | ⟨h, rfl⟩⟩
  · exact ⟨_, .refl _, rfl, rfl⟩
  · refine ⟨_, ?_, rfl, rfl⟩
    rw [gT, h]
    exact .tup2 (.nilArr 2) (.refl _)

theorem impl_gainsOf_ok (m : List (List Int)) (q : List (Int × Int)) (hq : q.length ≤ 1000000) (hm : m.length ≤ 1000000) (hr : ∀ r ∈ m, q.length ≤ r.length ∧ r.length ≤ 1000000) : Fun Try.prog 89 [] [.t (rows m), .t (rats q)] fun o r => o = [] ∧ r = gT (gainsGo q m) := by
  refine Fun.gT_nil ?_
  refine fun_impl_gainsOf (by simp) ?_
  simp -implicitDefEqProofs only [go_sem, evR, ints, rows, rat, rats, c_impl_gainsOf]
  refine SemC.loopR (σ := Nat × List (Int × Int)) (fun s => St.of [(0, .t (rows m)), (1, .t (rats q)), (6, .own 77), (14, .t (rows m)), (15, .t (.i m.length)), (16, .t (.i s.1))] [(77, .arr 2 (ratC s.2))]) (fun s => s.1 ≤ m.length ∧ s.2.length = s.1 ∧ gjoin s.2 (gainsGo q (m.drop s.1)) = gainsGo q m) (fun s => m.length - s.1) (0, []) (Weak.of _ _ [none] (by simp) (by simp) ?_ ?_) ⟨by simp, rfl, gjoin_nil q m⟩ fun s hI R hn hr0 he => ?_
  · simp -implicitDefEqProofs only [ints, rows, Nat.reduceBEq, wkR, Nat.reduceEqDiff, ↓reduceIte, wrR, rats]
  · exact ⟨⟨2, rfl⟩, trivial⟩
  · obtain ⟨i, g⟩ := s
    obtain ⟨hi, hgl, hg⟩ := hI
    (try simp only [] at hi hgl hg)
    simp -implicitDefEqProofs only [go_sem, evR, ints, rows, rat, rats]
    refine ⟨fun h => ⟨by omega, by omega, by omega, fun r hrow => ?_⟩, fun h => he _ _ ?_⟩
    · obtain ⟨hrl, hrl2⟩ := hr r (List.mem_of_getElem? hrow)
      rw [drop_of_get hrow, gainsGo] at hg
      refine ⟨by omega, by omega, ?_⟩
      have hol := ones_length r
      refine SemC.loopR (σ := Nat) (fun j => St.of [(0, .t (rows m)), (1, .t (rats q)), (6, .own 77), (8, .t (ints r)), (9, .own 22), (14, .t (rows m)), (15, .t (.i m.length)), (16, .t (.i i)), (23, .t (ints r)), (24, .t (.i r.length)), (25, .t (.i j))] [(77, .arr 2 (ratC g)), (22, .arr 2 (ratC (rfilled (ones r) j)))]) (fun j => j ≤ r.length) (fun j => r.length - j) 0 (Weak.of _ _ [some 77, some 22] (by simp) (by simp) ?_ ?_) (by simp) fun j hj R2 hn2 hr2 he2 => ?_
      · simp -implicitDefEqProofs only [ints, rows, Nat.reduceBEq, wkR, Nat.reduceEqDiff, ↓reduceIte, wrR, rats]
      · exact ⟨⟨_, rfl, .refl _⟩, rfl, ⟨_, rfl, by rw [ratC_replicate]; simp only [rfilled, List.take_zero, List.nil_append, Nat.sub_zero, hol]; exact .refl _⟩, rfl, trivial⟩
      · have hlen := rfilled_length (ones r) j (by omega)
        simp -implicitDefEqProofs only [go_sem, evR, ints, rows, rat, rats]
        refine ⟨fun h1 => ⟨by omega, by omega, by omega, fun x hx => ⟨by omega, by rw [ratC_length]; omega, by rw [ratC_length]; omega, hn2 _ (j + 1) (Weak.of _ _ [some 77, some 22] (by simp) (by simp) ?_ ?_) (by omega) (by omega)⟩⟩, fun h1 => he2 _ _ ?_⟩
        · simp -implicitDefEqProofs only [ints, rows, Nat.reduceBEq, wkR, Nat.reduceEqDiff, ↓reduceIte, wrR, rats, next64 (by omega : j < r.length) (by omega)]
        · refine ⟨⟨_, rfl, .refl _⟩, rfl, ⟨_, rfl, ?_⟩, rfl, trivial⟩
          (try simp only [List.cons_append, List.nil_append, List.append_assoc])
          have := ratC_set (l := rfilled (ones r) j) (i := j) (x, 1) (by omega)
          simp only [List.append_assoc, List.cons_append, List.nil_append] at this
          rw [this, rfilled_set (ones_get hx)]; exact .refl _
        · have hje : j = (ones r).length := by omega
          rw [hje, rfilled_all]
          simp -implicitDefEqProofs only [go_sem, evR, ints, rows, rat, rats]
          refine CallW.pure (impl_sumOfProducts_ok q (ones r) (by omega) (by omega)) [22] rfl Try.call114 ?_ (by first | trivial | simp [T.noSh, T.noShL, rat]) rfl ?_
          · simp -implicitDefEqProofs only [agR, Nat.reduceLeDiff, Nat.reduceSub, vaR, go_sem, ints, rows, rat, rats, ratsO, rtR, intsO, rowsO]
          simp -implicitDefEqProofs only [go_sem, evR, ints, rows, rat, rats, redT]
          refine ⟨fun h2 => hr0 _ ?_, fun h2 => ?_⟩
          · have h2 : (spR q (ones r)).2 ≠ 0 := by simpa using h2
            rw [if_pos h2, gjoin, if_pos h2] at hg
            simp -implicitDefEqProofs only [go_sem, evR, ints, rows, rat, rats]
            exact .inr ⟨by rw [← hg], by rw [← hg]⟩
          · have h2 : (spR q (ones r)).2 = 0 := by simpa using h2
            rw [if_neg (by simp [h2])] at hg
            refine ⟨by rw [ratC_length]; omega, hn _ (i + 1, g ++ [(spR q (ones r)).1]) (Weak.of _ _ [some 48] (by simp) (by simp) ?_ ?_) ⟨by simp only []; omega, by simp; omega, ?_⟩ (by simp only []; omega)⟩
            · simp -implicitDefEqProofs only [ints, rows, Nat.reduceBEq, wkR, Nat.reduceEqDiff, ↓reduceIte, wrR, rats, next64 (by omega : i < m.length) (by omega)]
            · refine ⟨⟨_, rfl, ?_⟩, rfl, trivial⟩
              rw [ratC_append]; exact .refl _
            · simp only []
              rw [← hg]
              by_cases h3 : (gainsGo q (m.drop (i + 1))).2 = 0
              · rw [if_neg (by simp [h3]), gjoin, gjoin, if_neg (by simp [h3]), if_neg (by simp)]; simp
              · rw [if_pos h3, gjoin, gjoin, if_pos h3, if_pos h3]
    · simp -implicitDefEqProofs only [go_sem, evR, ints, rows, rat, rats]
      have : i = m.length := by omega
      rw [List.drop_of_length_le (by omega), gainsGo, gjoin] at hg
      left
      rw [← hg]; simp [gT, ratsO]
end Go.Ab

/- Contracts: MatrixValue. -/
set_option linter.unusedSimpArgs false
set_option linter.unusedVariables false
namespace Go.Ab
open Go.Proofs

theorem ratC_cut_flat (l : List (Int × Int)) (a b : Nat) : (((ratC l).drop a).take b).all T.flat = true := by
  have h := ratC_all_flat l
  rw [List.all_eq_true] at h ⊢
  intro x hx
  exact h x (List.mem_of_mem_drop (List.mem_of_mem_take hx))
attribute [go_sem] ratC_cut_flat
end Go.Ab

/- The order of ratios; valid sums. -/
set_option linter.unusedSimpArgs false
set_option linter.unusedVariables false
namespace Go.Ab
open Go.Proofs

def cmpR (a b : Int × Int) : Int := if a.1 * b.2 < b.1 * a.2 then -1 else if b.1 * a.2 < a.1 * b.2 then 1 else 0
def leR (a b : Int × Int) : Prop := a.1 * b.2 ≤ b.1 * a.2
theorem cmpR_le {a b : Int × Int} : cmpR a b ≤ 0 ↔ leR a b := by
  unfold cmpR leR; split
  · omega
  · split <;> omega
theorem cmpR_ge {a b : Int × Int} : 0 ≤ cmpR a b ↔ leR b a := by
  unfold cmpR leR; split
  · omega
  · split <;> omega
theorem cmpR_gt {a b : Int × Int} : 0 < cmpR a b ↔ ¬ leR a b := by
  unfold cmpR leR; split
  · omega
  · split <;> omega
theorem cmpR_lt {a b : Int × Int} : cmpR a b < 0 ↔ ¬ leR b a := by
  unfold cmpR leR; split
  · omega
  · split <;> omega
theorem leR_refl (a : Int × Int) : leR a a := Int.le_refl _
theorem leR_total (a b : Int × Int) : leR a b ∨ leR b a := by unfold leR; omega
theorem leR_trans {a b c : Int × Int} (ha : 1 ≤ a.2) (hb : 1 ≤ b.2) (hc : 1 ≤ c.2) (h1 : leR a b) (h2 : leR b c) : leR a c := by
  unfold leR at *
  have e1 : a.1 * b.2 * c.2 ≤ b.1 * a.2 * c.2 := Int.mul_le_mul_of_nonneg_right h1 (by omega)
  have e2 : b.1 * c.2 * a.2 ≤ c.1 * b.2 * a.2 := Int.mul_le_mul_of_nonneg_right h2 (by omega)
  have e3 : b.1 * a.2 * c.2 = b.1 * c.2 * a.2 := by rw [Int.mul_assoc, Int.mul_comm a.2, ← Int.mul_assoc]
  have e4 : a.1 * c.2 * b.2 ≤ c.1 * a.2 * b.2 := by
    rw [Int.mul_assoc, Int.mul_comm c.2, ← Int.mul_assoc, Int.mul_assoc c.1, Int.mul_comm a.2, ← Int.mul_assoc]
    omega
  exact Int.le_of_mul_le_mul_right e4 (by omega)
theorem redR_valid {n d : Int} (h : (redR n d).2 = 0) : isRat (redR n d).1 = true := by
  unfold redR at h ⊢
  split
  · rename_i h1; exact h1
  · rename_i h1; rw [if_neg h1] at h; simp at h
theorem addR_valid {a b : Int × Int} (h : (addR a b).2 = 0) : isRat (addR a b).1 = true := by
  unfold addR at h ⊢
  split
  · rename_i h1; rw [if_pos h1] at h; exact redR_valid h
  · rename_i h1; rw [if_neg h1] at h; simp at h
theorem spGo_valid : ∀ (l : List ((Int × Int) × (Int × Int))) (s : Int × Int), isRat s = true → (spGo s l).2 = 0 → isRat (spGo s l).1 = true
  | [], s, hs, _ => hs
  | x :: l, s, hs, h => by
    rw [spGo] at h ⊢
    split
    · rename_i h1; rw [if_pos h1] at h; exact absurd h h1
    · rename_i h1
      rw [if_neg h1] at h
      split
      · rename_i h2; rw [if_pos h2] at h; exact absurd h h2
      · rename_i h2; rw [if_neg h2] at h; exact spGo_valid l _ (addR_valid (by omega)) h
theorem gainsGo_valid (q : List (Int × Int)) : ∀ (m : List (List Int)), ∀ x ∈ (gainsGo q m).1, isRat x = true
  | [], x, hx => by simp [gainsGo] at hx
  | r :: m, x, hx => by
    rw [gainsGo] at hx
    split at hx
    · simp at hx
    · rename_i h1
      split at hx
      · simp at hx
      · rcases List.mem_cons.1 hx with rfl | hx
        · exact spGo_valid _ _ (by decide) (by have h1 : (spR q (ones r)).2 = 0 := by simpa using h1
                                               exact h1)
        · exact gainsGo_valid q m x hx

def maxR (l : List (Int × Int)) : Int × Int := l.tail.foldl (fun m x => if 0 < cmpR x m then x else m) (l.headD (0, 0))
def minR (l : List (Int × Int)) : Int × Int := l.tail.foldl (fun m x => if cmpR x m < 0 then x else m) (l.headD (0, 0))
theorem maxR_snoc {l : List (Int × Int)} (h : l ≠ []) (x : Int × Int) : maxR (l ++ [x]) = if 0 < cmpR x (maxR l) then x else maxR l := by
  cases l with
  | nil => exact absurd rfl h
  | cons a l => simp [maxR, List.foldl_append]
theorem minR_snoc {l : List (Int × Int)} (h : l ≠ []) (x : Int × Int) : minR (l ++ [x]) = if cmpR x (minR l) < 0 then x else minR l := by
  cases l with
  | nil => exact absurd rfl h
  | cons a l => simp [minR, List.foldl_append]
theorem maxR_spec : ∀ (l : List (Int × Int)) (a : Int × Int), (∀ x ∈ a :: l, isRat x = true) → (∀ x ∈ a :: l, leR x (maxR (a :: l))) ∧ maxR (a :: l) ∈ a :: l := by
  intro l a
  show _ → (∀ x ∈ a :: l, leR x (l.foldl (fun m x => if 0 < cmpR x m then x else m) a)) ∧ (l.foldl (fun m x => if 0 < cmpR x m then x else m) a) ∈ a :: l
  induction l generalizing a with
  | nil => intro _; exact ⟨fun x hx => by simp at hx; rw [hx]; exact leR_refl _, by simp⟩
  | cons b l ih =>
    intro hv
    rw [List.foldl_cons]
    have den : ∀ x ∈ a :: b :: l, 1 ≤ x.2 := fun x hx => (isRat_spec (hv x hx)).2.2.1
    by_cases h : 0 < cmpR b a
    · rw [if_pos h]
      obtain ⟨h1, h2⟩ := ih b fun x hx => hv x (List.mem_cons_of_mem _ hx)
      have hab : leR a b := (leR_total a b).resolve_right (fun h' => (cmpR_gt.1 h) h')
      refine ⟨fun x hx => ?_, List.mem_cons_of_mem _ h2⟩
      rcases List.mem_cons.1 hx with rfl | hx
      · exact leR_trans (den _ (by simp)) (den b (by simp)) (den _ (List.mem_cons_of_mem _ h2)) hab (h1 b (by simp))
      · exact h1 x hx
    · rw [if_neg h]
      obtain ⟨h1, h2⟩ := ih a fun x hx => hv x (by rcases List.mem_cons.1 hx with rfl | hx <;> simp [*])
      have hba : leR b a := cmpR_le.1 (by omega)
      have hmem : l.foldl (fun m x => if 0 < cmpR x m then x else m) a ∈ a :: b :: l := by
        rcases List.mem_cons.1 h2 with h3 | h3
        · rw [h3]; simp
        · exact List.mem_cons_of_mem _ (List.mem_cons_of_mem _ h3)
      refine ⟨fun x hx => ?_, hmem⟩
      rcases List.mem_cons.1 hx with rfl | hx
      · exact h1 _ (by simp)
      · rcases List.mem_cons.1 hx with rfl | hx
        · exact leR_trans (den _ (by simp)) (den a (by simp)) (den _ hmem) hba (h1 a (by simp))
        · exact h1 x (by simp [hx])
theorem minR_spec : ∀ (l : List (Int × Int)) (a : Int × Int), (∀ x ∈ a :: l, isRat x = true) → (∀ x ∈ a :: l, leR (minR (a :: l)) x) ∧ minR (a :: l) ∈ a :: l := by
  intro l a
  show _ → (∀ x ∈ a :: l, leR (l.foldl (fun m x => if cmpR x m < 0 then x else m) a) x) ∧ (l.foldl (fun m x => if cmpR x m < 0 then x else m) a) ∈ a :: l
  induction l generalizing a with
  | nil => intro _; exact ⟨fun x hx => by simp at hx; rw [hx]; exact leR_refl _, by simp⟩
  | cons b l ih =>
    intro hv
    rw [List.foldl_cons]
    have den : ∀ x ∈ a :: b :: l, 1 ≤ x.2 := fun x hx => (isRat_spec (hv x hx)).2.2.1
    by_cases h : cmpR b a < 0
    · rw [if_pos h]
      obtain ⟨h1, h2⟩ := ih b fun x hx => hv x (List.mem_cons_of_mem _ hx)
      have hab : leR b a := (leR_total b a).resolve_right (fun h' => (cmpR_lt.1 h) h')
      refine ⟨fun x hx => ?_, List.mem_cons_of_mem _ h2⟩
      rcases List.mem_cons.1 hx with rfl | hx
      · exact leR_trans (den _ (List.mem_cons_of_mem _ h2)) (den b (by simp)) (den _ (by simp)) (h1 b (by simp)) hab
      · exact h1 x hx
    · rw [if_neg h]
      obtain ⟨h1, h2⟩ := ih a fun x hx => hv x (by rcases List.mem_cons.1 hx with rfl | hx <;> simp [*])
      have hba : leR a b := cmpR_ge.1 (by omega)
      have hmem : l.foldl (fun m x => if cmpR x m < 0 then x else m) a ∈ a :: b :: l := by
        rcases List.mem_cons.1 h2 with h3 | h3
        · rw [h3]; simp
        · exact List.mem_cons_of_mem _ (List.mem_cons_of_mem _ h3)
      refine ⟨fun x hx => ?_, hmem⟩
      rcases List.mem_cons.1 hx with rfl | hx
      · exact h1 _ (by simp)
      · rcases List.mem_cons.1 hx with rfl | hx
        · exact leR_trans (den _ hmem) (den a (by simp)) (den _ (by simp)) (h1 a (by simp)) hba
        · exact h1 x (by simp [hx])
end Go.Ab

/- Contracts: comparison of ratios; the least and the greatest of ratios. -/
set_option linter.unusedSimpArgs false
set_option linter.unusedVariables false
namespace Go.Ab
open Go.Proofs

theorem cmp_isNaN_ok (x : Int) : Pure Try.prog 123 [.i x] (.b false) := by
  refine fun_cmp_isNaN_int64_ (by simp) ?_
  simp -implicitDefEqProofs only [go_sem, evR, ints, rows, rat, rats, c_cmp_isNaN_int64_]
theorem cmp_Compare_ok (x y : Int) : Pure Try.prog 115 [.i x, .i y] (.i (if x < y then -1 else if y < x then 1 else 0)) := by
  refine fun_cmp_Compare_int64_ (by simp) ?_
  simp -implicitDefEqProofs only [go_sem, evR, ints, rows, rat, rats, c_cmp_Compare_int64_]
  refine CallW.pure (cmp_isNaN_ok x) [] rfl Try.call123 ?_ (by first | trivial | simp [T.noSh, T.noShL, rat]) rfl ?_
  · simp -implicitDefEqProofs only [agR, Nat.reduceLeDiff, Nat.reduceSub, vaR, go_sem, ints, rows, rat, rats, ratsO, rtR, intsO, rowsO]
  simp -implicitDefEqProofs only [go_sem, evR, ints, rows, rat, rats]
  refine CallW.pure (cmp_isNaN_ok y) [] rfl Try.call123 ?_ (by first | trivial | simp [T.noSh, T.noShL, rat]) rfl ?_
  · simp -implicitDefEqProofs only [agR, Nat.reduceLeDiff, Nat.reduceSub, vaR, go_sem, ints, rows, rat, rats, ratsO, rtR, intsO, rowsO]
  simp -implicitDefEqProofs only [go_sem, evR, ints, rows, rat, rats]
  refine ⟨fun h => by rw [if_pos h], fun h => ⟨fun h' => by rw [if_neg h, if_pos (by omega)], fun h' => by rw [if_neg h, if_neg (by omega)]⟩⟩
theorem impl_compareRatios_ok (a b : Int × Int) (ha : isRat a = true) (hb : isRat b = true) : Pure Try.prog 90 [rat a, rat b] (.i (cmpR a b)) := by
  refine fun_impl_compareRatios (by simp) ?_
  simp -implicitDefEqProofs only [go_sem, evR, ints, rows, rat, rats, c_impl_compareRatios]
  obtain ⟨a1, a2, a3, a4⟩ := isRat_spec ha
  obtain ⟨b1, b2, b3, b4⟩ := isRat_spec hb
  have p1 := mul_bound a1 a2 b3 b4
  have p2 := mul_bound b1 b2 a3 a4
  rw [wrap64 (n := a.1 * b.2) (by omega) (by omega), wrap64 (n := b.1 * a.2) (by omega) (by omega)]
  refine CallW.pure (cmp_Compare_ok (a.1 * b.2) (b.1 * a.2)) [] rfl Try.call115 ?_ (by first | trivial | simp [T.noSh, T.noShL, rat]) rfl ?_
  · simp -implicitDefEqProofs only [agR, Nat.reduceLeDiff, Nat.reduceSub, vaR, go_sem, ints, rows, rat, rats, ratsO, rtR, intsO, rowsO]
  simp -implicitDefEqProofs only [go_sem, evR, ints, rows, rat, rats]
  rfl
end Go.Ab

/- Contracts: the least and the greatest of ratios. -/
set_option linter.unusedSimpArgs false
set_option linter.unusedVariables false
namespace Go.Ab
open Go.Proofs

theorem mm_mem {f : (Int × Int) → (Int × Int) → Prop} [∀ a b, Decidable (f a b)] : ∀ (l : List (Int × Int)) (a : Int × Int), l.foldl (fun m x => if f m x then x else m) a ∈ a :: l := by
  intro l
  induction l with
  | nil => intro a; simp
  | cons b l ih =>
    intro a
    rw [List.foldl_cons]
    have := ih (if f a b then b else a)
    rcases List.mem_cons.1 this with h | h
    · rw [h]; split <;> simp
    · simp [h]
theorem minR_mem {l : List (Int × Int)} (h : l ≠ []) : minR l ∈ l := by
  cases l with
  | nil => exact absurd rfl h
  | cons a l => exact mm_mem (f := fun m x => cmpR x m < 0) l a
theorem maxR_mem {l : List (Int × Int)} (h : l ≠ []) : maxR l ∈ l := by
  cases l with
  | nil => exact absurd rfl h
  | cons a l => exact mm_mem (f := fun m x => 0 < cmpR x m) l a
theorem take_ne {l : List (Int × Int)} {i : Nat} (h : 1 ≤ i) (h' : i ≤ l.length) : l.take i ≠ [] := by
  intro e
  have := congrArg List.length e
  simp at this
  rcases this with h | h
  · omega
  · rw [h] at h'; simp at h'; omega
theorem take_mem {l : List (Int × Int)} {i : Nat} {x : Int × Int} (h : x ∈ l.take i) : x ∈ l := List.mem_of_mem_take h

theorem ratC_take2 {l : List (Int × Int)} {x : Int × Int} (h : l[0]? = some x) : (ratC l).take 2 = [T.i x.1, T.i x.2] := by
  have := ratC_at h
  simpa using this
theorem slices_MinFunc_ok (l : List (Int × Int)) (hv : ∀ x ∈ l, isRat x = true) (h0 : 1 ≤ l.length) (h1 : l.length ≤ 1000000000) : Pure Try.prog 92 [rats l, .fn 90 []] (rat (minR l)) := by
  obtain ⟨x0, hx0⟩ : ∃ x, l[0]? = some x := ⟨_, List.getElem?_eq_getElem (by omega)⟩
  refine fun_slices_MinFunc___impl_Ratio_impl_Ratio_ (by simp) ?_
  simp -implicitDefEqProofs only [go_sem, evR, ints, rows, rat, rats, c_slices_MinFunc___impl_Ratio_impl_Ratio_]
  refine ⟨fun h => by omega, fun _ => ⟨by rw [ratC_length]; omega, by rw [ratC_length]; omega, by rw [ratC_take2 hx0]; rfl, ?_⟩⟩
  rw [ratC_take2 hx0]
  simp -implicitDefEqProofs only [go_sem, evR, ints, rows, rat, rats]
  have t1 : l.take 1 = [x0] := by
    cases l with
    | nil => simp at h0
    | cons a l => simp at hx0; simp [hx0]
  refine SemC.loopR (σ := Nat) (fun i => St.of [(0, .t (rats l)), (1, .t (.fn 90 [])), (4, .own 4), (5, .own 5), (6, .t (.i i))] [(4, .box [.i 0, .i 0]), (5, .box [.i (minR (l.take i)).1, .i (minR (l.take i)).2])]) (fun i => 1 ≤ i ∧ i ≤ l.length) (fun i => l.length - i) 1 (Weak.of _ _ [some 4, some 5] (by simp) (by simp) ?_ ?_) ⟨by omega, by omega⟩ fun i hI R hn hr he => ?_
  · simp -implicitDefEqProofs only [ints, rows, Nat.reduceBEq, wkR, Nat.reduceEqDiff, ↓reduceIte, wrR, rats]
  · exact ⟨⟨_, rfl, .refl _⟩, rfl, ⟨_, rfl, by rw [t1]; exact .refl _⟩, rfl, trivial⟩
  · simp -implicitDefEqProofs only [go_sem, evR, ints, rows, rat, rats]
    refine ⟨fun h => ?_, fun h => he _ _ ?_⟩
    · have hil : i < l.length := by omega
      obtain ⟨x, hx⟩ : ∃ x, l[i]? = some x := ⟨_, List.getElem?_eq_getElem hil⟩
      have hm := minR_mem (take_ne hI.1 hI.2)
      have hs := take_snoc hx
      have hss := minR_snoc (take_ne hI.1 hI.2) x
      rw [← hs] at hss
      have hxv := hv x (List.mem_of_getElem? hx)
      generalize hmm : minR (l.take i) = mm at hm hss
      have hmv := hv mm (take_mem hm)
      refine ⟨by omega, by rw [ratC_length]; omega, by rw [ratC_length]; omega, ?_⟩
      rw [ratC_at hx]
      refine CallV.pure (impl_compareRatios_ok x mm hxv hmv) [] rfl Try.call90 (fun e R' hR => ?_) (by first | trivial | simp [T.noSh, T.noShL, rat]) (fun _ => rfl) ?_
      · simp -implicitDefEqProofs only [agR, Nat.reduceLeDiff, Nat.reduceSub, vaR, go_sem, ints, rows, rat, rats, ratsO, rtR, intsO, rowsO]
      simp -implicitDefEqProofs only [go_sem, evR, ints, rows, rat, rats]
      refine ⟨fun hc => ?_, fun hc => ?_⟩
      · rw [if_pos (by omega)] at hss
        refine ⟨by omega, by rw [ratC_length]; omega, by rw [ratC_length]; omega, by rw [ratC_at hx]; rfl, ?_⟩
        rw [ratC_at hx]
        simp -implicitDefEqProofs only [go_sem, evR, ints, rows, rat, rats]
        refine hn _ (i + 1) (Weak.of _ _ [some 4, some 5] (by simp) (by simp) ?_ ?_) ⟨by omega, by omega⟩ (by omega)
        · simp -implicitDefEqProofs only [ints, rows, Nat.reduceBEq, wkR, Nat.reduceEqDiff, ↓reduceIte, wrR, rats, next64 hil (by omega)]
        · exact ⟨⟨_, rfl, .refl _⟩, rfl, ⟨_, rfl, by rw [hss]; exact .refl _⟩, rfl, trivial⟩
      · rw [if_neg (by omega)] at hss
        refine hn _ (i + 1) (Weak.of _ _ [some 4, some 5] (by simp) (by simp) ?_ ?_) ⟨by omega, by omega⟩ (by omega)
        · simp -implicitDefEqProofs only [ints, rows, Nat.reduceBEq, wkR, Nat.reduceEqDiff, ↓reduceIte, wrR, rats, next64 hil (by omega)]
        · exact ⟨⟨_, rfl, .refl _⟩, rfl, ⟨_, rfl, by rw [hss]; exact .refl _⟩, rfl, trivial⟩
    · simp -implicitDefEqProofs only [go_sem, evR, ints, rows, rat, rats]
      have e : l.take i = l := List.take_of_length_le (by omega)
      rw [e]
theorem slices_MaxFunc_ok (l : List (Int × Int)) (hv : ∀ x ∈ l, isRat x = true) (h0 : 1 ≤ l.length) (h1 : l.length ≤ 1000000000) : Pure Try.prog 91 [rats l, .fn 90 []] (rat (maxR l)) := by
  obtain ⟨x0, hx0⟩ : ∃ x, l[0]? = some x := ⟨_, List.getElem?_eq_getElem (by omega)⟩
  refine fun_slices_MaxFunc___impl_Ratio_impl_Ratio_ (by simp) ?_
  simp -implicitDefEqProofs only [go_sem, evR, ints, rows, rat, rats, c_slices_MaxFunc___impl_Ratio_impl_Ratio_]
  refine ⟨fun h => by omega, fun _ => ⟨by rw [ratC_length]; omega, by rw [ratC_length]; omega, by rw [ratC_take2 hx0]; rfl, ?_⟩⟩
  rw [ratC_take2 hx0]
  simp -implicitDefEqProofs only [go_sem, evR, ints, rows, rat, rats]
  have t1 : l.take 1 = [x0] := by
    cases l with
    | nil => simp at h0
    | cons a l => simp at hx0; simp [hx0]
  refine SemC.loopR (σ := Nat) (fun i => St.of [(0, .t (rats l)), (1, .t (.fn 90 [])), (4, .own 4), (5, .own 5), (6, .t (.i i))] [(4, .box [.i 0, .i 0]), (5, .box [.i (maxR (l.take i)).1, .i (maxR (l.take i)).2])]) (fun i => 1 ≤ i ∧ i ≤ l.length) (fun i => l.length - i) 1 (Weak.of _ _ [some 4, some 5] (by simp) (by simp) ?_ ?_) ⟨by omega, by omega⟩ fun i hI R hn hr he => ?_
  · simp -implicitDefEqProofs only [ints, rows, Nat.reduceBEq, wkR, Nat.reduceEqDiff, ↓reduceIte, wrR, rats]
  · exact ⟨⟨_, rfl, .refl _⟩, rfl, ⟨_, rfl, by rw [t1]; exact .refl _⟩, rfl, trivial⟩
  · simp -implicitDefEqProofs only [go_sem, evR, ints, rows, rat, rats]
    refine ⟨fun h => ?_, fun h => he _ _ ?_⟩
    · have hil : i < l.length := by omega
      obtain ⟨x, hx⟩ : ∃ x, l[i]? = some x := ⟨_, List.getElem?_eq_getElem hil⟩
      have hm := maxR_mem (take_ne hI.1 hI.2)
      have hs := take_snoc hx
      have hss := maxR_snoc (take_ne hI.1 hI.2) x
      rw [← hs] at hss
      have hxv := hv x (List.mem_of_getElem? hx)
      generalize hmm : maxR (l.take i) = mm at hm hss
      have hmv := hv mm (take_mem hm)
      refine ⟨by omega, by rw [ratC_length]; omega, by rw [ratC_length]; omega, ?_⟩
      rw [ratC_at hx]
      refine CallV.pure (impl_compareRatios_ok x mm hxv hmv) [] rfl Try.call90 (fun e R' hR => ?_) (by first | trivial | simp [T.noSh, T.noShL, rat]) (fun _ => rfl) ?_
      · simp -implicitDefEqProofs only [agR, Nat.reduceLeDiff, Nat.reduceSub, vaR, go_sem, ints, rows, rat, rats, ratsO, rtR, intsO, rowsO]
      simp -implicitDefEqProofs only [go_sem, evR, ints, rows, rat, rats]
      refine ⟨fun hc => ?_, fun hc => ?_⟩
      · rw [if_pos (by omega)] at hss
        refine ⟨by omega, by rw [ratC_length]; omega, by rw [ratC_length]; omega, by rw [ratC_at hx]; rfl, ?_⟩
        rw [ratC_at hx]
        simp -implicitDefEqProofs only [go_sem, evR, ints, rows, rat, rats]
        refine hn _ (i + 1) (Weak.of _ _ [some 4, some 5] (by simp) (by simp) ?_ ?_) ⟨by omega, by omega⟩ (by omega)
        · simp -implicitDefEqProofs only [ints, rows, Nat.reduceBEq, wkR, Nat.reduceEqDiff, ↓reduceIte, wrR, rats, next64 hil (by omega)]
        · exact ⟨⟨_, rfl, .refl _⟩, rfl, ⟨_, rfl, by rw [hss]; exact .refl _⟩, rfl, trivial⟩
      · rw [if_neg (by omega)] at hss
        refine hn _ (i + 1) (Weak.of _ _ [some 4, some 5] (by simp) (by simp) ?_ ?_) ⟨by omega, by omega⟩ (by omega)
        · simp -implicitDefEqProofs only [ints, rows, Nat.reduceBEq, wkR, Nat.reduceEqDiff, ↓reduceIte, wrR, rats, next64 hil (by omega)]
        · exact ⟨⟨_, rfl, .refl _⟩, rfl, ⟨_, rfl, by rw [hss]; exact .refl _⟩, rfl, trivial⟩
    · simp -implicitDefEqProofs only [go_sem, evR, ints, rows, rat, rats]
      have e : l.take i = l := List.take_of_length_le (by omega)
      rw [e]
end Go.Ab

/- Ratios as rational numbers: sums, mixes, gains and values, exactly. -/
set_option linter.unusedSimpArgs false
set_option linter.unusedVariables false
namespace Go.Ab

def rv (a : Int × Int) : Rat := (a.1 : Rat) / (a.2 : Rat)
theorem cast_pos {d : Int} (h : 0 < d) : (0 : Rat) < (d : Rat) := by exact_mod_cast h
theorem rv_redR {n d : Int} (hd : 0 < d) (h : (redR n d).2 = 0) : rv (redR n d).1 = (n : Rat) / (d : Rat) := by
  unfold redR at h ⊢
  split
  · rename_i h1
    obtain ⟨a, ha⟩ := gcdI_dvd_left n d
    obtain ⟨b, hb⟩ := gcdI_dvd_right n d
    have hg := gcdI_pos n d hd
    have hg' : (gcdI n d : Int) ≠ 0 := by omega
    have e1 : n.tdiv (gcdI n d) = a := by
      generalize (gcdI n d : Int) = g at ha hg'
      rw [ha]; exact Int.mul_tdiv_cancel_left _ hg'
    have e2 : d.tdiv (gcdI n d) = b := by
      generalize (gcdI n d : Int) = g at hb hg'
      rw [hb]; exact Int.mul_tdiv_cancel_left _ hg'
    simp only [rv, e1, e2]
    have hb0 : (b : Rat) ≠ 0 := by
      intro h0
      have : b = 0 := by exact_mod_cast h0
      rw [this, Int.mul_zero] at hb; omega
    have hgr : ((gcdI n d : Int) : Rat) ≠ 0 := by
      intro h0
      exact hg' (by exact_mod_cast h0)
    have e3 : (n : Rat) = ((gcdI n d : Int) : Rat) * (a : Rat) := by rw [← Rat.intCast_mul, ← ha]
    have e4 : (d : Rat) = ((gcdI n d : Int) : Rat) * (b : Rat) := by rw [← Rat.intCast_mul, ← hb]
    rw [e3, e4]
    generalize ((gcdI n d : Int) : Rat) = g at *
    generalize (a : Rat) = a' at *
    generalize (b : Rat) = b' at *
    clear e1 e2 e3 e4 ha hb h1 h
    grind
  · rename_i h1; rw [if_neg h1] at h; simp at h
theorem den_ne {a : Int × Int} (h : isRat a = true) : (a.2 : Rat) ≠ 0 := by
  have := (isRat_spec h).2.2.1
  have h2 := cast_pos (d := a.2) (by omega)
  grind
theorem addR_both {a b : Int × Int} (h : (addR a b).2 = 0) : isRat a = true ∧ isRat b = true := by
  unfold addR at h
  split at h
  · rename_i h1; simpa using h1
  · simp at h
theorem mulR_both {a b : Int × Int} (h : (mulR a b).2 = 0) : isRat a = true ∧ isRat b = true := by
  unfold mulR at h
  split at h
  · rename_i h1; simpa using h1
  · simp at h
theorem rv_addR {a b : Int × Int} (h : (addR a b).2 = 0) : rv (addR a b).1 = rv a + rv b := by
  obtain ⟨h1, h2⟩ := addR_both h
  have d1 := (isRat_spec h1).2.2.1
  have d2 := (isRat_spec h2).2.2.1
  have n1 := den_ne h1
  have n2 := den_ne h2
  unfold addR at h ⊢
  rw [if_pos (by simp [h1, h2])] at h ⊢
  rw [rv_redR (Int.mul_pos (by omega) (by omega)) h]
  simp only [rv, Rat.intCast_add, Rat.intCast_mul]
  generalize (a.1 : Rat) = x at *
  generalize (a.2 : Rat) = y at *
  generalize (b.1 : Rat) = z at *
  generalize (b.2 : Rat) = w at *
  clear h h1 h2 d1 d2
  grind
theorem rv_mulR {a b : Int × Int} (h : (mulR a b).2 = 0) : rv (mulR a b).1 = rv a * rv b := by
  obtain ⟨h1, h2⟩ := mulR_both h
  have d1 := (isRat_spec h1).2.2.1
  have d2 := (isRat_spec h2).2.2.1
  have n1 := den_ne h1
  have n2 := den_ne h2
  unfold mulR at h ⊢
  rw [if_pos (by simp [h1, h2])] at h ⊢
  rw [rv_redR (Int.mul_pos (by omega) (by omega)) h]
  simp only [rv, Rat.intCast_mul]
  generalize (a.1 : Rat) = x at *
  generalize (a.2 : Rat) = y at *
  generalize (b.1 : Rat) = z at *
  generalize (b.2 : Rat) = w at *
  clear h h1 h2 d1 d2
  grind
theorem leR_rv {a b : Int × Int} (ha : 1 ≤ a.2) (hb : 1 ≤ b.2) : leR a b ↔ rv a ≤ rv b := by
  have p1 := cast_pos (d := a.2) (by omega)
  have p2 := cast_pos (d := b.2) (by omega)
  have e : leR a b ↔ (a.1 : Rat) * (b.2 : Rat) ≤ (b.1 : Rat) * (a.2 : Rat) := by
    unfold leR
    rw [← Rat.intCast_mul, ← Rat.intCast_mul, Rat.intCast_le_intCast]
  rw [e]
  have i1 : rv a * (a.2 : Rat) = a.1 := by unfold rv; exact Rat.div_mul_cancel (by grind)
  have i2 : rv b * (b.2 : Rat) = b.1 := by unfold rv; exact Rat.div_mul_cancel (by grind)
  rw [← i1, ← i2]
  generalize rv a = x at *
  generalize rv b = y at *
  generalize (a.2 : Rat) = u at *
  generalize (b.2 : Rat) = w at *
  have huw : 0 < u * w := Rat.mul_pos p1 p2
  constructor
  · intro h
    have h' : (u * w) * x ≤ (u * w) * y := by grind
    exact Rat.le_of_mul_le_mul_left h' huw
  · intro h
    have h' := Rat.mul_le_mul_of_nonneg_left h (Rat.le_of_lt huw)
    grind
theorem rv_inj {a b : Int × Int} (ha : isRat a = true) (hb : isRat b = true) (h : rv a = rv b) : a = b := by
  have d1 := (isRat_spec ha).2.2.1
  have d2 := (isRat_spec hb).2.2.1
  have h1 := (leR_rv d1 d2).2 (by rw [h]; exact Rat.le_refl)
  have h2 := (leR_rv d2 d1).2 (by rw [h]; exact Rat.le_refl)
  unfold leR at h1 h2
  have e : a.1 * b.2 = b.1 * a.2 := by omega
  simp only [isRat, Bool.and_eq_true, decide_eq_true_eq] at ha hb
  have g1 : Nat.Coprime a.1.natAbs a.2.natAbs := ha.2
  have g2 : Nat.Coprime b.1.natAbs b.2.natAbs := hb.2
  have e' : a.1.natAbs * b.2.natAbs = b.1.natAbs * a.2.natAbs := by rw [← Int.natAbs_mul, ← Int.natAbs_mul, e]
  have k1 : a.2.natAbs ∣ b.2.natAbs := g1.symm.dvd_of_dvd_mul_left ⟨b.1.natAbs, by rw [e', Nat.mul_comm]⟩
  have k2 : b.2.natAbs ∣ a.2.natAbs := g2.symm.dvd_of_dvd_mul_left ⟨a.1.natAbs, by rw [← e', Nat.mul_comm]⟩
  have k3 := Nat.dvd_antisymm k1 k2
  have k4 : a.2 = b.2 := by omega
  rw [k4] at e
  have k5 : a.1 = b.1 := Int.eq_of_mul_eq_mul_right (by omega) e
  exact Prod.ext k5 k4

/-! Sums of rational numbers. -/
def sumF (f : Nat → Rat) : Nat → Rat
  | 0 => 0
  | n + 1 => sumF f n + f n
theorem sumF_congr {f g : Nat → Rat} : ∀ {n : Nat}, (∀ i, i < n → f i = g i) → sumF f n = sumF g n
  | 0, _ => rfl
  | n + 1, h => by rw [sumF, sumF, sumF_congr fun i hi => h i (by omega), h n (by omega)]
theorem sumF_add (f g : Nat → Rat) : ∀ n, sumF (fun i => f i + g i) n = sumF f n + sumF g n
  | 0 => by simp only [sumF]; grind
  | n + 1 => by rw [sumF, sumF, sumF, sumF_add f g n]; grind
theorem sumF_mul (c : Rat) (f : Nat → Rat) : ∀ n, sumF (fun i => c * f i) n = c * sumF f n
  | 0 => by simp [sumF]
  | n + 1 => by rw [sumF, sumF, sumF_mul c f n]; grind
theorem sumF_zero : ∀ n, sumF (fun _ => 0) n = 0
  | 0 => rfl
  | n + 1 => by rw [sumF, sumF_zero n]; grind
theorem sumF_swap (f : Nat → Nat → Rat) (m : Nat) : ∀ n, sumF (fun i => sumF (f i) m) n = sumF (fun j => sumF (fun i => f i j) n) m
  | 0 => by simp only [sumF]; exact (sumF_zero m).symm
  | n + 1 => by
    rw [sumF, sumF_swap f m n, ← sumF_add]; rfl
theorem sumF_le {f g : Nat → Rat} : ∀ {n : Nat}, (∀ i, i < n → f i ≤ g i) → sumF f n ≤ sumF g n
  | 0, _ => Rat.le_refl
  | n + 1, h => by
    have h1 := sumF_le (n := n) fun i hi => h i (by omega)
    have h2 := h n (by omega)
    rw [sumF, sumF]; grind
theorem sumF_front (f : Nat → Rat) : ∀ n, sumF f (n + 1) = f 0 + sumF (fun i => f (i + 1)) n
  | 0 => by simp only [sumF]; grind
  | n + 1 => by rw [sumF, sumF_front f n, sumF]; grind
theorem mean_le {p g : Nat → Rat} {n : Nat} {b : Rat} (hp : ∀ i, i < n → 0 ≤ p i) (hs : sumF p n = 1) (hg : ∀ i, i < n → g i ≤ b) : sumF (fun i => p i * g i) n ≤ b := by
  have h1 := sumF_le (n := n) (f := fun i => p i * g i) (g := fun i => b * p i) fun i hi => by
    have := Rat.mul_le_mul_of_nonneg_left (hg i hi) (hp i hi)
    grind
  rw [sumF_mul, hs] at h1
  grind
theorem le_mean {p g : Nat → Rat} {n : Nat} {b : Rat} (hp : ∀ i, i < n → 0 ≤ p i) (hs : sumF p n = 1) (hg : ∀ i, i < n → b ≤ g i) : b ≤ sumF (fun i => p i * g i) n := by
  have h1 := sumF_le (n := n) (f := fun i => b * p i) (g := fun i => p i * g i) fun i hi => by
    have := Rat.mul_le_mul_of_nonneg_left (hg i hi) (hp i hi)
    grind
  rw [sumF_mul, hs] at h1
  grind

def rvL (l : List (Int × Int)) (i : Nat) : Rat := rv (l.getD i (0, 1))
def entQ (m : List (List Int)) (i j : Nat) : Rat := (((m.getD i []).getD j 0 : Int) : Rat)
theorem rvL_cons (x : Int × Int) (l : List (Int × Int)) (i : Nat) : rvL (x :: l) (i + 1) = rvL l i := rfl
theorem rv_one (x : Int) : rv (x, 1) = (x : Rat) := by
  have : (x : Rat) / 1 = x := by grind
  exact this
theorem rv_zero : rv (0, 1) = 0 := rv_one 0
theorem mixGo_spec : ∀ (l : List (Int × Int)) (s : Int × Int), mixGo s l = true → (∀ x ∈ l, isRat x = true ∧ 0 ≤ x.1) ∧ rv s + sumF (rvL l) l.length = 1
  | [], s, h => by
    simp only [mixGo, decide_eq_true_eq] at h
    subst h
    refine ⟨by simp, ?_⟩
    simp only [List.length_nil, sumF, rv_one]
    have : ((1 : Int) : Rat) = 1 := rfl
    rw [this]; grind
  | x :: l, s, h => by
    simp only [mixGo, Bool.and_eq_true, decide_eq_true_eq] at h
    obtain ⟨⟨⟨h1, h2⟩, h3⟩, h4⟩ := h
    obtain ⟨h5, h6⟩ := mixGo_spec l _ h4
    rw [rv_addR h3] at h6
    refine ⟨fun y hy => ?_, ?_⟩
    · rcases List.mem_cons.1 hy with rfl | hy
      · exact ⟨h1, h2⟩
      · exact h5 y hy
    · have e0 : rvL (x :: l) 0 = rv x := rfl
      rw [List.length_cons, sumF_front, e0]
      simp only [rvL_cons]
      have e1 : sumF (fun i => rvL l i) l.length = sumF (rvL l) l.length := rfl
      rw [e1]; grind
theorem rv_nonneg {x : Int × Int} (h : isRat x = true) (h' : 0 ≤ x.1) : 0 ≤ rv x := by
  have d := cast_pos (d := x.2) (by have := (isRat_spec h).2.2.1; omega)
  have n : (0 : Rat) ≤ (x.1 : Rat) := by exact_mod_cast h'
  unfold rv
  rw [Rat.div_def]
  exact Rat.mul_nonneg n (Rat.le_of_lt (Rat.inv_pos.2 d))
theorem mix_spec {p : List (Int × Int)} {n : Nat} (h : isMixB p n = true) : p.length = n ∧ (∀ x ∈ p, isRat x = true) ∧ (∀ i, i < n → 0 ≤ rvL p i) ∧ sumF (rvL p) n = 1 := by
  simp only [isMixB, Bool.and_eq_true, decide_eq_true_eq] at h
  obtain ⟨⟨_, h1⟩, h2⟩ := h
  obtain ⟨h3, h4⟩ := mixGo_spec p _ h2
  have hl : p.length = n := by omega
  refine ⟨hl, fun x hx => (h3 x hx).1, fun i hi => ?_, ?_⟩
  · have hm : p.getD i (0, 1) ∈ p := by rw [List.getD_eq_getElem?_getD, List.getElem?_eq_getElem (by omega)]; exact List.getElem_mem _
    exact rv_nonneg (h3 _ hm).1 (h3 _ hm).2
  · rw [rv_zero, hl] at h4; grind
theorem spGo_rv : ∀ (a b : List (Int × Int)) (s : Int × Int), a.length ≤ b.length → (spGo s (a.zip b)).2 = 0 → rv (spGo s (a.zip b)).1 = rv s + sumF (fun i => rvL a i * rvL b i) a.length
  | [], b, s, _, _ => by
    simp only [List.zip_nil_left, spGo, List.length_nil, sumF]; grind
  | x :: a, [], s, h, _ => by simp at h
  | x :: a, y :: b, s, hl, h => by
    rw [List.zip_cons_cons, spGo] at h ⊢
    split
    · rename_i h1; rw [if_pos h1] at h; exact absurd h h1
    · rename_i h1
      rw [if_neg h1] at h
      split
      · rename_i h2; rw [if_pos h2] at h; exact absurd h h2
      · rename_i h2
        rw [if_neg h2] at h
        have h1' : (mulR x y).2 = 0 := by simpa using h1
        have h2' : (addR s (mulR x y).1).2 = 0 := by simpa using h2
        rw [spGo_rv a b _ (by simpa using hl) h, rv_addR h2', rv_mulR h1', List.length_cons, sumF_front]
        have e0 : rvL (x :: a) 0 = rv x := rfl
        have e1 : rvL (y :: b) 0 = rv y := rfl
        simp only [rvL_cons, e0, e1]
        grind
theorem rvL_ones (r : List Int) (i : Nat) : rvL (ones r) i = ((r.getD i 0 : Int) : Rat) := by
  unfold rvL ones
  rw [List.getD_eq_getElem?_getD, List.getD_eq_getElem?_getD, List.getElem?_map]
  cases r[i]? with
  | none => exact rv_one 0
  | some x => exact rv_one x
theorem spR_rv {q : List (Int × Int)} {r : List Int} (hl : q.length ≤ r.length) (h : (spR q (ones r)).2 = 0) : rv (spR q (ones r)).1 = sumF (fun j => rvL q j * ((r.getD j 0 : Int) : Rat)) q.length := by
  unfold spR at h ⊢
  rw [spGo_rv q (ones r) _ (by simpa [ones] using hl) h, rv_zero]
  have e : sumF (fun i => rvL q i * rvL (ones r) i) q.length = sumF (fun j => rvL q j * ((r.getD j 0 : Int) : Rat)) q.length := sumF_congr fun i _ => by rw [rvL_ones]
  rw [e]; grind
def gainQ (q : List (Int × Int)) (m : List (List Int)) (i : Nat) : Rat := sumF (fun j => rvL q j * entQ m i j) q.length
theorem gainsGo_rv (q : List (Int × Int)) : ∀ (m : List (List Int)), (∀ r ∈ m, q.length ≤ r.length) → (gainsGo q m).2 = 0 → (gainsGo q m).1.length = m.length ∧ ∀ i, i < m.length → rvL (gainsGo q m).1 i = gainQ q m i
  | [], _, _ => ⟨rfl, fun i hi => by simp at hi⟩
  | r :: m, hr, h => by
    rw [gainsGo] at h ⊢
    split
    · rename_i h1; rw [if_pos h1] at h; exact absurd h h1
    · rename_i h1
      rw [if_neg h1] at h
      split
      · rename_i h2; rw [if_pos h2] at h; exact absurd h h2
      · rename_i h2
        have h1' : (spR q (ones r)).2 = 0 := by simpa using h1
        have h2' : (gainsGo q m).2 = 0 := by simpa using h2
        obtain ⟨h3, h4⟩ := gainsGo_rv q m (fun r' hr' => hr r' (List.mem_cons_of_mem _ hr')) h2'
        refine ⟨by simp [h3], fun i hi => ?_⟩
        cases i with
        | zero => exact spR_rv (hr r (by simp)) h1'
        | succ i => exact h4 i (by simpa using hi)
theorem entQ_tr (m : List (List Int)) {c i j : Nat} (hi : i < m.length) (hj : j < c) : entQ (tr m c) j i = entQ m i j := by
  unfold entQ tr colOf
  rw [List.getD_eq_getElem?_getD (l := List.map _ _), List.getElem?_map, List.getElem?_range hj, Option.map_some, Option.getD_some, List.getD_eq_getElem?_getD, List.getElem?_map, List.getD_eq_getElem?_getD (l := m), List.getElem?_eq_getElem hi, Option.map_some, Option.getD_some, Option.getD_some]
def valQ (m : List (List Int)) (p q : List (Int × Int)) : Rat := sumF (fun i => rvL p i * gainQ q m i) p.length
theorem valQ_cols (m : List (List Int)) (p q : List (Int × Int)) (hp : p.length = m.length) : valQ m p q = sumF (fun j => rvL q j * gainQ p (tr m q.length) j) q.length := by
  unfold valQ gainQ
  have e1 : sumF (fun i => rvL p i * sumF (fun j => rvL q j * entQ m i j) q.length) p.length = sumF (fun i => sumF (fun j => rvL p i * (rvL q j * entQ m i j)) q.length) p.length := sumF_congr fun i _ => (sumF_mul _ _ _).symm
  have e2 : sumF (fun j => rvL q j * sumF (fun i => rvL p i * entQ (tr m q.length) j i) p.length) q.length = sumF (fun j => sumF (fun i => rvL p i * (rvL q j * entQ m i j)) p.length) q.length := by
    refine sumF_congr fun j hj => ?_
    rw [← sumF_mul]
    refine sumF_congr fun i hi => ?_
    rw [entQ_tr m (by omega) hj]; grind
  rw [e1, e2, sumF_swap]
end Go.Ab

/- Solutions of matrices: what they say; the value is unique. -/
set_option linter.unusedSimpArgs false
set_option linter.unusedVariables false
namespace Go.Ab
open Go.Proofs

structure Sol where
  r : List (Int × Int)
  c : List (Int × Int)
  v : Int × Int
deriving DecidableEq
def wid (m : List (List Int)) : Nat := (m.headD []).length
instance (a b : Int × Int) : Decidable (leR a b) := by unfold leR; exact inferInstance
def isSolB (m : List (List Int)) (x : Sol) : Bool :=
  isMixB x.r m.length && isMixB x.c (wid m) && isRat x.v && decide ((gainsGo x.c m).2 = 0) && decide ((gainsGo x.r (tr m (wid m))).2 = 0) &&
    ((gainsGo x.c m).1.all fun g => decide (leR g x.v)) && ((gainsGo x.r (tr m (wid m))).1.all fun g => decide (leR x.v g))
theorem gainsGo_rat (q : List (Int × Int)) : ∀ (m : List (List Int)), ∀ x ∈ (gainsGo q m).1, isRat x = true := gainsGo_valid q
theorem tr_length (m : List (List Int)) (c : Nat) : (tr m c).length = c := by simp [tr]
theorem tr_rows {m : List (List Int)} {c : Nat} : ∀ r ∈ tr m c, r.length = m.length := by
  intro r hr
  obtain ⟨k, _, rfl⟩ := List.mem_map.1 hr
  simp [colOf]
theorem isSolB_spec {m : List (List Int)} {x : Sol} (hm : rect m (wid m)) (h : isSolB m x = true) :
    isRat x.v = true ∧ x.r.length = m.length ∧ x.c.length = wid m ∧ (∀ i, i < m.length → 0 ≤ rvL x.r i) ∧ sumF (rvL x.r) m.length = 1 ∧ (∀ j, j < wid m → 0 ≤ rvL x.c j) ∧ sumF (rvL x.c) (wid m) = 1 ∧
    (∀ i, i < m.length → gainQ x.c m i ≤ rv x.v) ∧ ∀ j, j < wid m → rv x.v ≤ gainQ x.r (tr m (wid m)) j := by
  simp only [isSolB, Bool.and_eq_true, decide_eq_true_eq, List.all_eq_true] at h
  obtain ⟨⟨⟨⟨⟨⟨h1, h2⟩, h3⟩, h4⟩, h5⟩, h6⟩, h7⟩ := h
  obtain ⟨a1, a2, a3, a4⟩ := mix_spec h1
  obtain ⟨b1, b2, b3, b4⟩ := mix_spec h2
  have hv := (isRat_spec h3).2.2.1
  refine ⟨h3, a1, b1, a3, a4, b3, b4, fun i hi => ?_, fun j hj => ?_⟩
  · obtain ⟨e1, e2⟩ := gainsGo_rv x.c m (fun r hr => by rw [hm r hr, b1]; exact Nat.le_refl _) h4
    rw [← e2 i hi]
    have hmem : (gainsGo x.c m).1.getD i (0, 1) ∈ (gainsGo x.c m).1 := by rw [List.getD_eq_getElem?_getD, List.getElem?_eq_getElem (by omega)]; exact List.getElem_mem _
    exact (leR_rv (isRat_spec (gainsGo_rat _ _ _ hmem)).2.2.1 hv).1 (h6 _ hmem)
  · obtain ⟨e1, e2⟩ := gainsGo_rv x.r (tr m (wid m)) (fun r hr => by rw [tr_rows r hr, a1]; exact Nat.le_refl _) h5
    rw [tr_length] at e1 e2
    rw [← e2 j hj]
    have hmem : (gainsGo x.r (tr m (wid m))).1.getD j (0, 1) ∈ (gainsGo x.r (tr m (wid m))).1 := by rw [List.getD_eq_getElem?_getD, List.getElem?_eq_getElem (by omega)]; exact List.getElem_mem _
    exact (leR_rv hv (isRat_spec (gainsGo_rat _ _ _ hmem)).2.2.1).1 (h7 _ hmem)
theorem sol_le {m : List (List Int)} {x y : Sol} (hm : rect m (wid m)) (hx : isSolB m x = true) (hy : isSolB m y = true) : rv y.v ≤ rv x.v := by
  obtain ⟨_, x2, x3, x4, x5, x6, x7, x8, x9⟩ := isSolB_spec hm hx
  obtain ⟨_, y2, y3, y4, y5, y6, y7, y8, y9⟩ := isSolB_spec hm hy
  have h1 : valQ m y.r x.c ≤ rv x.v := by
    unfold valQ
    rw [y2]
    exact mean_le y4 y5 x8
  have h2 : rv y.v ≤ valQ m y.r x.c := by
    rw [valQ_cols m y.r x.c y2, x3]
    exact le_mean x6 x7 y9
  exact Rat.le_trans h2 h1
theorem sol_unique {m : List (List Int)} {x y : Sol} (hm : rect m (wid m)) (hx : isSolB m x = true) (hy : isSolB m y = true) : x.v = y.v := by
  have h1 := sol_le hm hx hy
  have h2 := sol_le hm hy hx
  exact rv_inj (isSolB_spec hm hx).1 (isSolB_spec hm hy).1 (by grind)
end Go.Ab

/- Contracts: solutions of matrices. -/
set_option linter.unusedSimpArgs false
set_option linter.unusedVariables false
namespace Go.Ab
open Go.Proofs

def solT (x : Sol) : T := .agg [rats x.r, rats x.c, .i x.v.1, .i x.v.2]
def solO (x : Sol) : T := .agg [ratsO x.r, ratsO x.c, .i x.v.1, .i x.v.2]
theorem maxR_le {l : List (Int × Int)} {v : Int × Int} (h0 : 1 ≤ l.length) (hv : ∀ x ∈ l, isRat x = true) (hr : isRat v = true) : decide (cmpR (maxR l) v ≤ 0) = l.all fun g => decide (leR g v) := by
  obtain ⟨a, l', rfl⟩ : ∃ a l', l = a :: l' := by
    cases l with
    | nil => simp at h0
    | cons a l' => exact ⟨a, l', rfl⟩
  obtain ⟨h1, h2⟩ := maxR_spec l' a hv
  have den : ∀ x ∈ a :: l', 1 ≤ x.2 := fun x hx => (isRat_spec (hv x hx)).2.2.1
  have dv := (isRat_spec hr).2.2.1
  rw [Bool.eq_iff_iff]
  simp only [decide_eq_true_eq, List.all_eq_true, cmpR_le]
  exact ⟨fun h x hx => leR_trans (den x hx) (den _ h2) dv (h1 x hx) h, fun h => h _ h2⟩
theorem minR_ge {l : List (Int × Int)} {v : Int × Int} (h0 : 1 ≤ l.length) (hv : ∀ x ∈ l, isRat x = true) (hr : isRat v = true) : decide (0 ≤ cmpR (minR l) v) = l.all fun g => decide (leR v g) := by
  obtain ⟨a, l', rfl⟩ : ∃ a l', l = a :: l' := by
    cases l with
    | nil => simp at h0
    | cons a l' => exact ⟨a, l', rfl⟩
  obtain ⟨h1, h2⟩ := minR_spec l' a hv
  have den : ∀ x ∈ a :: l', 1 ≤ x.2 := fun x hx => (isRat_spec (hv x hx)).2.2.1
  have dv := (isRat_spec hr).2.2.1
  rw [Bool.eq_iff_iff]
  simp only [decide_eq_true_eq, List.all_eq_true, cmpR_ge]
  exact ⟨fun h x hx => leR_trans dv (den _ h2) (den x hx) h (h1 x hx), fun h => h _ h2⟩

theorem impl_isSolution_ok (m : List (List Int)) (hm : isMat m = true) (x : Sol) (hr : x.r.length ≤ 1000000000000) (hc : x.c.length ≤ 1000000000000) : Pure Try.prog 74 [rows m, solT x] (.b (isSolB m x)) := by
  obtain ⟨h1, h2, h3, h4, h5, h6⟩ := isMat_spec hm
  refine fun_impl_isSolution (by simp) ?_
  simp -implicitDefEqProofs only [go_sem, evR, ints, rows, rat, rats, c_impl_isSolution, solT]
  refine CallV.pure (impl_IsMix_ok x.r m.length hr) [] rfl Try.call87 (fun e R' hR => ?_) (by first | trivial | simp [T.noSh, T.noShL, rat]) (fun _ => rfl) ?_
  · simp -implicitDefEqProofs only [agR, Nat.reduceLeDiff, Nat.reduceSub, vaR, go_sem, ints, rows, rat, rats, ratsO, rtR, intsO, rowsO]
  simp -implicitDefEqProofs only [go_sem, evR, ints, rows, rat, rats]
  refine ⟨fun hb1 => ⟨by omega, by omega, fun r0 h0 => ?_⟩, fun hb1 => ?_⟩
  · have hb1 : isMixB x.r m.length = true := by simpa using hb1
    have hh := headD_get h0
    have hwid : wid m = r0.length := by rw [wid, hh]
    rw [hh] at h3 h4 h5
    refine CallV.pure (impl_IsMix_ok x.c r0.length hc) [] rfl Try.call87 (fun e R' hR => ?_) (by first | trivial | simp [T.noSh, T.noShL, rat]) (fun _ => rfl) ?_
    · simp -implicitDefEqProofs only [agR, Nat.reduceLeDiff, Nat.reduceSub, vaR, go_sem, ints, rows, rat, rats, ratsO, rtR, intsO, rowsO]
    simp -implicitDefEqProofs only [go_sem, evR, ints, rows, rat, rats]
    refine ⟨fun hb2 => ?_, fun hb2 => ?_⟩
    · have hb2 : isMixB x.c r0.length = true := by simpa using hb2
      refine CallV.pure (impl_IsRatio_ok x.v) [] rfl Try.call88 (fun e R' hR => ?_) (by first | trivial | simp [T.noSh, T.noShL, rat]) (fun _ => rfl) ?_
      · simp -implicitDefEqProofs only [agR, Nat.reduceLeDiff, Nat.reduceSub, vaR, go_sem, ints, rows, rat, rats, ratsO, rtR, intsO, rowsO]
      simp -implicitDefEqProofs only [go_sem, evR, ints, rows, rat, rats]
      refine ⟨fun hb3 => ?_, fun hb3 => ?_⟩
      · have hb3 : isRat x.v = false := by simpa using hb3
        rw [isSolB, hb3]; simp
      · have hb3 : isRat x.v = true := by simpa using hb3
        have hrl : x.r.length = m.length := (mix_spec hb1).1
        have hcl : x.c.length = r0.length := (mix_spec hb2).1
        have hsol : isSolB m x = (decide ((gainsGo x.c m).2 = 0) && decide ((gainsGo x.r (tr m r0.length)).2 = 0) && ((gainsGo x.c m).1.all fun g => decide (leR g x.v)) && ((gainsGo x.r (tr m r0.length)).1.all fun g => decide (leR x.v g))) := by
          rw [isSolB, hwid, hb1, hb2, hb3]; rfl
        rw [hsol]
        refine CallW.res (impl_gainsOf_ok m x.c (by omega) (by omega) (fun r hr => by have := h5 r hr; omega)) [] rfl Try.call89 ?_ (.inl rfl) ?_
        · simp -implicitDefEqProofs only [agR, Nat.reduceLeDiff, Nat.reduceSub, vaR, go_sem, ints, rows, rat, rats, ratsO, rtR, intsO, rowsO]
        simp -implicitDefEqProofs only [clR, Nat.reduceLeDiff, go_sem, evR, rat, gT]
        refine CallC.res (impl_turned_ok m r0.length (by intro h; rw [h] at h1; simp at h1) h5 (by omega) (by omega)) [] rfl Try.call62 (fun e R' hR => ?_) (.inl rfl) ?_
        · simp -implicitDefEqProofs only [agR, Nat.reduceLeDiff, Nat.reduceSub, vaR, go_sem, ints, rows, rat, rats, ratsO, rtR, intsO, rowsO]
        simp -implicitDefEqProofs only [clR, Nat.reduceLeDiff, go_sem, evR, rat]
        have htl := tr_length m r0.length
        have htr : ∀ r ∈ tr m r0.length, r.length = m.length := tr_rows
        refine CallC.res (impl_gainsOf_ok (tr m r0.length) x.r (by omega) (by omega) (fun r hr => by have := htr r hr; omega)) [40] rfl Try.call89 (fun e R' hR => ?_) (.inr (gT_noSh _)) ?_
        · have hq40 := (hR 40).resolve_left (by simp -implicitDefEqProofs only [go_sem, evR, ints, rows, rat, rats, not_false_eq_true])
          simp -implicitDefEqProofs only [go_sem, evR, ints, rows, rat, rats] at hq40
          simp -implicitDefEqProofs only [agR, Nat.reduceLeDiff, Nat.reduceSub, vaR, go_sem, ints, rows, rat, rats, ratsO, rtR, intsO, rowsO, hq40]
        simp -implicitDefEqProofs only [clR, Nat.reduceLeDiff, go_sem, evR, rat, gT]
        refine ⟨fun hc1 => ?_, fun hc1 => ?_⟩
        · have hc1 : (gainsGo x.c m).2 = 0 := by simpa using hc1
          refine ⟨fun hc2 => ?_, fun hc2 => ?_⟩
          · have hc2 : (gainsGo x.r (tr m r0.length)).2 ≠ 0 := by simpa using hc2
            rw [decide_eq_false hc2]; simp
          · have hc2 : (gainsGo x.r (tr m r0.length)).2 = 0 := by simpa using hc2
            have hgl1 := gainsGo_length x.c m hc1
            have hgl2 := gainsGo_length x.r (tr m r0.length) hc2
            have hv1 := gainsGo_valid x.c m
            have hv2 := gainsGo_valid x.r (tr m r0.length)
            rw [decide_eq_true hc1, decide_eq_true hc2]
            have hM := maxR_le (v := x.v) (by omega : 1 ≤ (gainsGo x.c m).1.length) hv1 hb3
            have hN := minR_ge (v := x.v) (by omega : 1 ≤ (gainsGo x.r (tr m r0.length)).1.length) hv2 hb3
            rw [← hM, ← hN]
            refine CallV.pure (slices_MaxFunc_ok (gainsGo x.c m).1 hv1 (by omega) (by omega)) [35] rfl Try.call91 (fun e R' hR => ?_) (by first | trivial | simp [T.noSh, T.noShL, rat]) (fun _ => rfl) ?_
            · have hq35 := (hR 35).resolve_left (by simp -implicitDefEqProofs only [go_sem, evR, ints, rows, rat, rats, not_false_eq_true])
              simp -implicitDefEqProofs only [go_sem, evR, ints, rows, rat, rats] at hq35
              simp -implicitDefEqProofs only [agR, Nat.reduceLeDiff, Nat.reduceSub, vaR, go_sem, ints, rows, rat, rats, ratsO, rtR, intsO, rowsO, hq35]
            simp -implicitDefEqProofs only [go_sem, evR, ints, rows, rat, rats]
            refine CallV.pure (impl_compareRatios_ok (maxR (gainsGo x.c m).1) x.v (hv1 _ (maxR_mem (List.ne_nil_of_length_pos (by omega)))) hb3) [] rfl Try.call90 (fun e R' hR => ?_) (by first | trivial | simp [T.noSh, T.noShL, rat]) (fun _ => rfl) ?_
            · simp -implicitDefEqProofs only [agR, Nat.reduceLeDiff, Nat.reduceSub, vaR, go_sem, ints, rows, rat, rats, ratsO, rtR, intsO, rowsO]
            simp -implicitDefEqProofs only [go_sem, evR, ints, rows, rat, rats]
            refine ⟨fun hle => ?_, fun hle => by rw [decide_eq_false hle]; rfl⟩
            refine CallV.pure (slices_MinFunc_ok (gainsGo x.r (tr m r0.length)).1 hv2 (by omega) (by omega)) [43] rfl Try.call92 (fun e R' hR => ?_) (by first | trivial | simp [T.noSh, T.noShL, rat]) (fun _ => rfl) ?_
            · have hq43 := (hR 43).resolve_left (by simp -implicitDefEqProofs only [go_sem, evR, ints, rows, rat, rats, not_false_eq_true])
              simp -implicitDefEqProofs only [go_sem, evR, ints, rows, rat, rats] at hq43
              simp -implicitDefEqProofs only [agR, Nat.reduceLeDiff, Nat.reduceSub, vaR, go_sem, ints, rows, rat, rats, ratsO, rtR, intsO, rowsO, hq43]
            simp -implicitDefEqProofs only [go_sem, evR, ints, rows, rat, rats]
            refine CallV.pure (impl_compareRatios_ok (minR (gainsGo x.r (tr m r0.length)).1) x.v (hv2 _ (minR_mem (List.ne_nil_of_length_pos (by omega)))) hb3) [] rfl Try.call90 (fun e R' hR => ?_) (by first | trivial | simp [T.noSh, T.noShL, rat]) (fun _ => rfl) ?_
            · simp -implicitDefEqProofs only [agR, Nat.reduceLeDiff, Nat.reduceSub, vaR, go_sem, ints, rows, rat, rats, ratsO, rtR, intsO, rowsO]
            simp -implicitDefEqProofs only [go_sem, evR, ints, rows, rat, rats]
            rw [decide_eq_true hle]; rfl
        · have hc1 : (gainsGo x.c m).2 ≠ 0 := by simpa using hc1
          rw [decide_eq_false hc1]; simp
    · have hb2 : isMixB x.c r0.length = false := by simpa using hb2
      rw [isSolB, hwid, hb2]; simp
  · have hb1 : isMixB x.r m.length = false := by simpa using hb1
    rw [isSolB, hb1]; simp

end Go.Ab

/- Parts out of weights, plainly: the greatest remainders first. -/
set_option linter.unusedSimpArgs false
set_option linter.unusedVariables false
namespace Go.Ab
open Go.Proofs

def maxI (r : List Int) : Nat → Nat
  | 0 => 0
  | k + 1 => if r.getD (maxI r k) 0 < r.getD k 0 then k else maxI r k
theorem maxI_lt (r : List Int) : ∀ k, k ≤ r.length → 0 < r.length → maxI r k < r.length
  | 0, _, h => h
  | k + 1, hk, h => by
    have := maxI_lt r k (by omega) h
    rw [maxI]; split <;> omega
theorem maxI_max (r : List Int) : ∀ k i, i < k → r.getD i 0 ≤ r.getD (maxI r k) 0
  | k + 1, i, h => by
    have ih := maxI_max r k
    rw [maxI]
    split
    · rename_i h1
      by_cases hi : i = k
      · rw [hi]; exact Int.le_refl _
      · have := ih i (by omega); omega
    · rename_i h1
      by_cases hi : i = k
      · rw [hi]; omega
      · exact ih i (by omega)
theorem sum_set {p : List Int} {b : Nat} (h : b < p.length) (x : Int) : (p.set b x).sum = p.sum - p.getD b 0 + x := by
  induction p generalizing b with
  | nil => simp at h
  | cons a p ih =>
    cases b with
    | zero => simp; omega
    | succ b =>
      have := ih (b := b) (by simpa using h)
      simp only [List.set_cons_succ, List.sum_cons, List.getD_cons_succ]
      omega
theorem sum_le_of {t : Int} : ∀ (w p : List Int), w.length = p.length → (∀ i, i < w.length → 60 * w.getD i 0 ≤ t * p.getD i 0) → 60 * w.sum ≤ t * p.sum
  | [], [], _, _ => by simp
  | a :: w, b :: p, hl, h => by
    have ih := sum_le_of w p (by simpa using hl) fun i hi => by simpa using h (i + 1) (by simpa using hi)
    have h0 := h 0 (by simp)
    simp only [List.getD_cons_zero] at h0
    simp only [List.sum_cons, Int.mul_add]
    omega
structure HamI (w : List Int) (t : Int) (m : Nat) (p r : List Int) : Prop where
  lp : p.length = w.length
  lr : r.length = w.length
  each : ∀ i, i < w.length → (r.getD i 0 = 60 * w.getD i 0 - t * p.getD i 0 ∧ 0 ≤ r.getD i 0 ∧ r.getD i 0 < t) ∨ (r.getD i 0 = -1 ∧ 60 * w.getD i 0 < t * p.getD i 0 ∧ t * p.getD i 0 < 60 * w.getD i 0 + t)
  sum : p.sum + m = 60
theorem HamI.best {w : List Int} {m : Nat} {p r : List Int} (h : HamI w w.sum (m + 1) p r) (ht : 0 < w.sum) : maxI r r.length < w.length ∧ 0 < r.getD (maxI r r.length) 0 := by
  have ⟨i, hi, hpos⟩ : ∃ i, i < w.length ∧ ¬ 60 * w.getD i 0 ≤ w.sum * p.getD i 0 := by
    by_cases hc : ∃ i, i < w.length ∧ ¬ 60 * w.getD i 0 ≤ w.sum * p.getD i 0
    · exact hc
    · have := sum_le_of (t := w.sum) w p h.lp.symm fun i hi => by
        by_cases h1 : 60 * w.getD i 0 ≤ w.sum * p.getD i 0
        · exact h1
        · exact absurd ⟨i, hi, h1⟩ hc
      have hs := h.sum
      have e : w.sum * p.sum = w.sum * (60 - (m + 1 : Nat)) := by rw [show p.sum = 60 - ((m + 1 : Nat) : Int) by omega]
      rw [e, Int.mul_sub] at this
      have h2 : 0 < w.sum * ((m + 1 : Nat) : Int) := Int.mul_pos ht (by omega)
      omega
  have hri : 0 < r.getD i 0 := by
    rcases h.each i hi with h1 | h1 <;> omega
  have hlr := h.lr
  have h1 := maxI_lt r r.length (Nat.le_refl _) (by omega)
  have h2 := maxI_max r r.length i (by omega)
  exact ⟨by omega, by omega⟩
theorem getD_set_self {l : List Int} {b : Nat} (h : b < l.length) (x : Int) : (l.set b x).getD b 0 = x := by
  rw [List.getD_eq_getElem?_getD, List.getElem?_set_self h]; rfl
theorem getD_set_other {l : List Int} {b i : Nat} (h : i ≠ b) (x : Int) : (l.set b x).getD i 0 = l.getD i 0 := by
  rw [List.getD_eq_getElem?_getD, List.getElem?_set_ne (Ne.symm h), List.getD_eq_getElem?_getD]
theorem HamI.step {w : List Int} {m : Nat} {p r : List Int} (h : HamI w w.sum (m + 1) p r) (ht : 0 < w.sum) : HamI w w.sum m (p.set (maxI r r.length) (p.getD (maxI r r.length) 0 + 1)) (r.set (maxI r r.length) (-1)) := by
  obtain ⟨hb, hr⟩ := h.best ht
  have hlp := h.lp
  have hlr := h.lr
  generalize maxI r r.length = b at hb hr
  refine ⟨by simp [hlp], by simp [hlr], fun i hi => ?_, ?_⟩
  · by_cases hib : i = b
    · subst hib
      right
      rw [getD_set_self (by omega), getD_set_self (by omega)]
      rcases h.each i hi with h1 | h1
      · rw [Int.mul_add]; omega
      · omega
    · rw [getD_set_other hib, getD_set_other hib]
      exact h.each i hi
  · have := h.sum
    rw [sum_set (by omega)]
    omega
end Go.Ab

/- Contracts: sums. -/
set_option linter.unusedSimpArgs false
set_option linter.unusedVariables false
namespace Go.Ab
open Go.Proofs

def smallL (l : List Int) : Prop := l.length ≤ 1000 ∧ ∀ x ∈ l, -1000000000000 ≤ x ∧ x ≤ 1000000000000
theorem smallL_sum {l : List Int} (h : smallL l) (k : Nat) : -1000000000000000 ≤ (l.take k).sum ∧ (l.take k).sum ≤ 1000000000000000 := by
  obtain ⟨h1, h2⟩ := h
  have key : ∀ (l : List Int), (∀ x ∈ l, -1000000000000 ≤ x ∧ x ≤ 1000000000000) → -(1000000000000 * (l.length : Int)) ≤ l.sum ∧ l.sum ≤ 1000000000000 * (l.length : Int) := by
    intro l
    induction l with
    | nil => intro _; simp
    | cons a l ih =>
      intro h
      have := ih fun x hx => h x (List.mem_cons_of_mem _ hx)
      have := h a (by simp)
      simp only [List.sum_cons, List.length_cons]
      omega
  have := key (l.take k) fun x hx => h2 x (List.mem_of_mem_take hx)
  have hl : (l.take k).length ≤ 1000 := by rw [List.length_take]; omega
  omega
theorem sum_snoc (l : List Int) (x : Int) : (l ++ [x]).sum = l.sum + x := by simp
theorem impl_sumOf_ok (l : List Int) (h : smallL l) : Pure Try.prog 101 [ints l] (.i l.sum) := by
  have hl := h.1
  refine fun_impl_sumOf (by simp) ?_
  simp -implicitDefEqProofs only [go_sem, evR, ints, rows, rat, rats, c_impl_sumOf]
  refine SemC.loopR (σ := Nat) (fun i => St.of [(3, .t (.i (l.take i).sum)), (6, .t (ints l)), (7, .t (.i l.length)), (8, .t (.i i))] []) (fun i => i ≤ l.length) (fun i => l.length - i) 0 (Weak.of _ [] [] (by simp) (by simp) ?_ trivial) (by omega) fun i hi R hn hr he => ?_
  · simp -implicitDefEqProofs only [ints, rows, Nat.reduceBEq, wkR, Nat.reduceEqDiff, ↓reduceIte, wrR, List.take_zero, List.sum_nil]
  · simp -implicitDefEqProofs only [go_sem, evR, ints, rows, rat, rats]
    refine ⟨fun h1 => ⟨by omega, by omega, by omega, fun x hx => ?_⟩, fun h1 => he _ _ ?_⟩
    · have e := sum_snoc (l.take i) x
      rw [← take_snoc hx] at e
      have hb := smallL_sum h (i + 1)
      refine hn _ (i + 1) (Weak.of _ [] [] (by simp) (by simp) ?_ trivial) (by omega) (by omega)
      simp -implicitDefEqProofs only [ints, rows, Nat.reduceBEq, wkR, Nat.reduceEqDiff, ↓reduceIte, wrR, next64 (by omega : i < l.length) (by omega), ← e, wrap64 (n := (l.take (i + 1)).sum) (by omega) (by omega)]
    · simp -implicitDefEqProofs only [go_sem, evR, ints, rows, rat, rats]
      rw [List.take_of_length_le (by omega)]
end Go.Ab

/- Contracts: parts, the reference's. -/
set_option linter.unusedSimpArgs false
set_option linter.unusedVariables false
namespace Go.Ab
open Go.Proofs

def weightsOK (w : List Int) : Prop := 1 ≤ w.length ∧ w.length ≤ 4 ∧ ∀ x ∈ w, 0 ≤ x ∧ x ≤ 1000000000
theorem HamI.small {w : List Int} {t : Int} {m : Nat} {p r : List Int} (h : HamI w t m p r) (ht : 0 < t) {i : Nat} (hi : i < w.length) (hw : 0 ≤ w.getD i 0 ∧ w.getD i 0 ≤ 1000000000) : 0 ≤ p.getD i 0 ∧ p.getD i 0 ≤ 100000000000 := by
  have key : -t < t * p.getD i 0 ∧ t * p.getD i 0 < 60 * w.getD i 0 + t := by
    rcases h.each i hi with h1 | h1 <;> omega
  refine ⟨?_, ?_⟩
  · have h1 : t * (-1) < t * p.getD i 0 := by omega
    have := Int.lt_of_mul_lt_mul_left h1 (by omega)
    omega
  · have h1 := Int.mul_le_mul_of_nonneg_right (show (1 : Int) ≤ t by omega) (show 0 ≤ 60 * w.getD i 0 by omega)
    have h2 : t * p.getD i 0 < t * (60 * w.getD i 0 + 1) := by rw [Int.mul_add, Int.mul_one]; omega
    have := Int.lt_of_mul_lt_mul_left h2 (by omega)
    omega
end Go.Ab

/- The bridge, part 5: bytes. -/
set_option linter.unusedSimpArgs false
set_option linter.unusedVariables false
namespace Go.Ab

def bytes (cs : List Int) : T := .sh 1 (cs.map fun x => .v (.int .u8 x))
def bytesOK (cs : List Int) : Prop := ∀ c ∈ cs, 0 ≤ c ∧ c ≤ 255
def tyU8s : Ty := .sl 1 (.int .u8)
theorem wf8 {n : Int} (h : (Lit.int .u8 n).wf = true) : 0 ≤ n ∧ n ≤ 255 := by
  simp [Lit.wf, IntKind.min, IntKind.max, IntKind.signed, IntKind.bits] at h
  omega
theorem flat_bytes : ∀ {xs : List (List T)}, (∀ x ∈ xs, x.length = 1 ∧ (Ty.int .u8).wt x) → ∃ l : List Int, xs.flatten = (l.map fun x => T.v (.int .u8 x)) ∧ l.length = xs.length ∧ bytesOK l
  | [], _ => ⟨[], rfl, rfl, fun x hx => by simp at hx⟩
  | x :: xs, h => by
    obtain ⟨l, hl, hlen, hf⟩ := flat_bytes (xs := xs) fun y hy => h y (by simp [hy])
    obtain ⟨_, n, rfl, hw⟩ := h x (by simp)
    refine ⟨n :: l, by simp [hl], by simp [hlen], fun y hy => ?_⟩
    rcases List.mem_cons.1 hy with rfl | hy
    · exact wf8 hw
    · exact hf y hy
theorem wt_bytes {x : T} (h : tyU8s.wt [x]) : ∃ l : List Int, x = bytes l ∧ l.length ≤ 9223372036854775807 ∧ bytesOK l := by
  obtain ⟨xs, hx, hlen, hall⟩ := h
  obtain ⟨l, hl, hll, hf⟩ := flat_bytes hall
  simp only [List.cons.injEq, and_true] at hx
  exact ⟨l, by rw [hx, hl]; rfl, by rw [hll]; exact hlen, hf⟩
end Go.Ab

/- Contracts: the source of drawn numbers. -/
set_option linter.unusedSimpArgs false
set_option linter.unusedVariables false
namespace Go.Ab
open Go.Proofs

def srcT (cs : List Int) (a : Nat × Int) : T := .box [bytes cs, .i a.1, .i a.2]
def seedOK (a : Nat × Int) : Prop := 0 ≤ a.2 ∧ a.2 < 2147483647 ∧ a.1 ≤ 1000000000000
def fromS (l : List Int) : Int := l.foldl (fun s c => (s * 61 + c) % 2147483647) 45007
theorem fromS_snoc (l : List Int) (c : Int) : fromS (l ++ [c]) = (fromS l * 61 + c) % 2147483647 := by simp [fromS, List.foldl_append]
theorem fromS_bound (l : List Int) : 0 ≤ fromS l ∧ fromS l < 2147483647 := by
  rcases List.eq_nil_or_concat l with rfl | ⟨l, c, rfl⟩
  · decide
  · rw [List.concat_eq_append, fromS_snoc]
    omega
def nextS (cs : List Int) (a : Nat × Int) (n : Int) : Int × (Nat × Int) :=
  if n ≤ 1 then (0, a) else
  let s := (a.2 * 48271 + 29) % 2147483647
  if a.1 < cs.length then ((if n ≤ 256 ∧ (a.1 + 1) % 2 = 0 then cs.getD a.1 0 else s / 31 + cs.getD a.1 0) % n, (a.1 + 1, s)) else ((s / 31) % n, (a.1, s))
theorem nextS_bound {cs : List Int} {a : Nat × Int} {n : Int} (hn : 1 ≤ n) : 0 ≤ (nextS cs a n).1 ∧ (nextS cs a n).1 < n := by
  unfold nextS
  split
  · omega
  · split
    · exact ⟨Int.emod_nonneg _ (by omega), Int.emod_lt_of_pos _ (by omega)⟩
    · exact ⟨Int.emod_nonneg _ (by omega), Int.emod_lt_of_pos _ (by omega)⟩

theorem spec_l01From_ok (cs : List Int) (hc : bytesOK cs) (hl : cs.length ≤ 1000000000000) : Fun Try.prog 61 [] [.t (bytes cs)] fun o r => o = [] ∧ r = srcT cs (0, fromS (cs.take 64)) := by
  refine fun_spec_l01From (by simp) ?_
  simp -implicitDefEqProofs only [go_sem, evR, ints, rows, rat, rats, c_spec_l01From, bytes]
  refine SemC.loopR (σ := Nat) (fun i => St.of [(0, .t (bytes cs)), (3, .own 7), (4, .t (.i i))] [(7, .box [bytes cs, .i 0, .i (fromS (cs.take i))])]) (fun i => i ≤ 64 ∧ i ≤ cs.length) (fun i => 64 - i) 0 (Weak.of _ _ [some 7] (by simp) (by simp) ?_ ?_) ⟨by omega, by omega⟩ fun i hi R hn hr he => ?_
  · simp -implicitDefEqProofs only [ints, rows, Nat.reduceBEq, wkR, Nat.reduceEqDiff, ↓reduceIte, wrR, bytes]
  · exact ⟨⟨_, rfl, .refl _⟩, rfl, trivial⟩
  · simp -implicitDefEqProofs only [go_sem, evR, ints, rows, rat, rats, bytes]
    refine ⟨fun h1 => ⟨fun h2 => ⟨by omega, by omega, by omega, fun c hcc => ⟨by decide, ?_⟩⟩, fun h2 => he _ _ ?_⟩, fun h1 => he _ _ ?_⟩
    · have hb := hc c (List.mem_of_getElem? hcc)
      have hf := fromS_bound (cs.take i)
      have e := fromS_snoc (cs.take i) c
      rw [← take_snoc hcc] at e
      have hw : (IntKind.i64.wrap (IntKind.i64.wrap (fromS (cs.take i) * 61) + IntKind.i64.wrap c)).tmod 2147483647 = fromS (cs.take (i + 1)) := by
        rw [wrap64 (n := c) (by omega) (by omega), wrap64 (n := fromS (cs.take i) * 61) (by omega) (by omega), wrap64 (n := fromS (cs.take i) * 61 + c) (by omega) (by omega), Int.tmod_eq_emod_of_nonneg (by omega), e]
      rw [hw]
      refine hn _ (i + 1) (Weak.of _ _ [some 7] (by simp) (by simp) ?_ ?_) ⟨by omega, by omega⟩ (by omega)
      · simp -implicitDefEqProofs only [ints, rows, Nat.reduceBEq, wkR, Nat.reduceEqDiff, ↓reduceIte, wrR, bytes, next64 (by omega : i < cs.length) (by omega)]
      · exact ⟨⟨_, rfl, .refl _⟩, rfl, trivial⟩
    · simp -implicitDefEqProofs only [go_sem, evR, ints, rows, rat, rats, srcT, bytes]
      rw [show i = 64 by omega]; rfl
    · simp -implicitDefEqProofs only [go_sem, evR, ints, rows, rat, rats, srcT, bytes]
      have e : cs.take i = cs.take 64 := by rw [List.take_of_length_le (by omega), List.take_of_length_le (by omega)]
      rw [e]; rfl
set_option maxRecDepth 10000 in
theorem spec_l01Next_ok (cs : List Int) (hc : bytesOK cs) (hl : cs.length ≤ 100000000000) (a : Nat × Int) (ha : seedOK a) (n : Int) (hn : n ≤ 1000000000000) : Fun Try.prog 71 [srcT cs a] [.own 1000000000, .t (.i n)] fun o r => o = [srcT cs (nextS cs a n).2] ∧ r = .i (nextS cs a n).1 := by
  refine fun_spec_l01Next (by simp) ?_
  simp -implicitDefEqProofs only [go_sem, evR, ints, rows, rat, rats, c_spec_l01Next, srcT, bytes]
  obtain ⟨a1, a2⟩ := a
  obtain ⟨h1, h2, h3⟩ := ha
  simp only [] at h1 h2 h3
  have hs : (IntKind.i64.wrap (IntKind.i64.wrap (a2 * 48271) + 29)).tmod 2147483647 = (a2 * 48271 + 29) % 2147483647 := by
    rw [wrap64 (n := a2 * 48271) (by omega) (by omega), wrap64 (n := a2 * 48271 + 29) (by omega) (by omega), Int.tmod_eq_emod_of_nonneg (by omega)]
  have hs1 := Int.emod_nonneg (a2 * 48271 + 29) (show (2147483647 : Int) ≠ 0 by decide)
  have hs2 := Int.emod_lt_of_pos (a2 * 48271 + 29) (show (0 : Int) < 2147483647 by decide)
  have hw1 : IntKind.i64.wrap ((a1 : Int) + 1) = ((a1 + 1 : Nat) : Int) := by rw [wrap64 (by omega) (by omega)]; omega
  have hw2 : IntKind.i64.wrap (((a1 + 1 : Nat) : Int) - 1) = (a1 : Int) := by rw [wrap64 (by omega) (by omega)]; omega
  simp only [hs, hw1, hw2, Int.toNat_natCast]
  have hnx : nextS cs (a1, a2) n = if n ≤ 1 then (0, (a1, a2)) else if a1 < cs.length then ((if n ≤ 256 ∧ (a1 + 1) % 2 = 0 then cs.getD a1 0 else (a2 * 48271 + 29) % 2147483647 / 31 + cs.getD a1 0) % n, (a1 + 1, (a2 * 48271 + 29) % 2147483647)) else (((a2 * 48271 + 29) % 2147483647 / 31) % n, (a1, (a2 * 48271 + 29) % 2147483647)) := rfl
  generalize (a2 * 48271 + 29) % 2147483647 = s at hs1 hs2 hnx ⊢
  have hq : IntKind.i64.wrap (s.tdiv 31) = s / 31 := by rw [Int.tdiv_eq_ediv_of_nonneg hs1, wrap64 (by omega) (by omega)]
  have hq' : s.tdiv 31 = s / 31 := Int.tdiv_eq_ediv_of_nonneg hs1
  have hqs : IntKind.i64.wrap (s / 31) = s / 31 := wrap64 (by omega) (by omega)
  rw [hnx]
  by_cases hn1 : n ≤ 1
  · simp only [if_pos hn1]
    exact ⟨fun _ => by simp, fun h => absurd hn1 h⟩
  · simp only [if_neg hn1]
    refine ⟨fun h => absurd h hn1, fun _ => ⟨by decide, by decide, fun hl1 => ?_, fun hl1 => ?_⟩⟩
    · have hl2 : a1 < cs.length := by omega
      obtain ⟨c, hcc⟩ : ∃ c, cs[a1]? = some c := ⟨_, List.getElem?_eq_getElem hl2⟩
      have hcb := hc c (List.mem_of_getElem? hcc)
      have hg : cs.getD a1 0 = c := by rw [List.getD_eq_getElem?_getD, hcc]; rfl
      have hwc : IntKind.i64.wrap c = c := wrap64 (by omega) (by omega)
      simp only [if_pos hl2, hcc, hg, Option.some.injEq, forall_eq', hwc]
      have hws : IntKind.i64.wrap (s / 31 + c) = s / 31 + c := wrap64 (by omega) (by omega)
      simp only [hq', hqs, hws]
      refine ⟨by omega, by omega, by omega, fun h256 => ⟨by decide, fun he => ⟨by omega, by omega, by omega, by omega, by first | trivial | rfl, ?_⟩, fun he => ⟨by omega, by first | trivial | rfl, ?_⟩⟩, fun h256 => ⟨by omega, by first | trivial | rfl, ?_⟩⟩
      · rw [beq_iff_eq, Int.tmod_eq_emod_of_nonneg (by omega)] at he
        rw [if_pos ⟨h256, by omega⟩, Int.tmod_eq_emod_of_nonneg (by omega)]
      · rw [beq_eq_false_iff_ne, Int.tmod_eq_emod_of_nonneg (by omega)] at he
        rw [if_neg (by omega), Int.tmod_eq_emod_of_nonneg (by omega)]
      · rw [if_neg (by omega), Int.tmod_eq_emod_of_nonneg (by omega)]
    · have hl2 : ¬ a1 < cs.length := by omega
      simp only [if_neg hl2, hq', hqs]
      refine ⟨by omega, by first | trivial | rfl, ?_⟩
      rw [Int.tmod_eq_emod_of_nonneg (by omega)]
end Go.Ab

/- Contracts: picks. -/
set_option linter.unusedSimpArgs false
set_option linter.unusedVariables false
namespace Go.Ab
open Go.Proofs

theorem nextS_seed {cs : List Int} {a : Nat × Int} (hl : cs.length ≤ 100000000000) (ha : seedOK a) (n : Int) : seedOK (nextS cs a n).2 := by
  obtain ⟨h1, h2, h3⟩ := ha
  have hs1 := Int.emod_nonneg (a.2 * 48271 + 29) (show (2147483647 : Int) ≠ 0 by decide)
  have hs2 := Int.emod_lt_of_pos (a.2 * 48271 + 29) (show (0 : Int) < 2147483647 by decide)
  unfold nextS
  split
  · exact ⟨h1, h2, h3⟩
  · split
    · exact ⟨hs1, hs2, by show a.1 + 1 ≤ _; omega⟩
    · exact ⟨hs1, hs2, h3⟩
theorem seed_from (l : List Int) : seedOK (0, fromS l) := ⟨(fromS_bound l).1, (fromS_bound l).2, Nat.zero_le _⟩
def pickS (cs : List Int) (a : Nat × Int) (l : List Int) : Int × (Nat × Int) := (l.getD (nextS cs a l.length).1.toNat 0, (nextS cs a l.length).2)
theorem pickS_mem {cs : List Int} {a : Nat × Int} {l : List Int} (h : 1 ≤ l.length) : (pickS cs a l).1 ∈ l := by
  have hb := nextS_bound (cs := cs) (a := a) (show (1 : Int) ≤ l.length by omega)
  unfold pickS
  rw [List.getD_eq_getElem?_getD, List.getElem?_eq_getElem (show (nextS cs a l.length).1.toNat < l.length by omega)]
  exact List.getElem_mem _
theorem next_box (cs : List Int) (hc : bytesOK cs) (hl : cs.length ≤ 100000000000) (a : Nat × Int) (ha : seedOK a) (n : Int) (hn : n ≤ 1000000000000) : Fun Try.prog 71 [.box [bytes cs, .i a.1, .i a.2]] [.own 1000000000, .t (.i n)] fun o r => o = [.box [bytes cs, .i (nextS cs a n).2.1, .i (nextS cs a n).2.2]] ∧ r = .i (nextS cs a n).1 := spec_l01Next_ok cs hc hl a ha n hn
theorem pickS_seed {cs : List Int} {a : Nat × Int} (hl : cs.length ≤ 100000000000) (ha : seedOK a) (l : List Int) : seedOK (pickS cs a l).2 := nextS_seed hl ha _
theorem pick_own (cs : List Int) (hc : bytesOK cs) (hl : cs.length ≤ 100000000000) (a : Nat × Int) (ha : seedOK a) (l : List Int) (h1 : 1 ≤ l.length) (h2 : l.length ≤ 1000000) : Fun Try.prog 72 [.box [bytes cs, .i a.1, .i a.2], intsO l] [.own 1000000000, .own 1000000001] fun o r => o = [.box [bytes cs, .i (pickS cs a l).2.1, .i (pickS cs a l).2.2], intsO l] ∧ r = .i (pickS cs a l).1 := by
  have hb := nextS_bound (cs := cs) (a := a) (show (1 : Int) ≤ l.length by omega)
  obtain ⟨x, hx⟩ : ∃ x, l[(nextS cs a l.length).1.toNat]? = some x := ⟨_, List.getElem?_eq_getElem (show (nextS cs a l.length).1.toNat < l.length by omega)⟩
  have hg : (pickS cs a l).1 = x := by rw [pickS, List.getD_eq_getElem?_getD, hx]; rfl
  refine fun_spec_l01Pick (by simp) ?_
  simp -implicitDefEqProofs only [go_sem, evR, ints, rows, rat, rats, c_spec_l01Pick, intsO]
  refine CallW.ref (next_box cs hc hl a ha l.length (by omega)) [1000000000] [] rfl Try.call71 (by simp) ?_ (by simp) ?_ (.inl rfl) ?_
  · simp -implicitDefEqProofs only [srR, Nat.reduceEqDiff, ↓reduceIte, ints, rows, intsO, rowsO]
  · simp -implicitDefEqProofs only [agR, Nat.reduceLeDiff, Nat.reduceSub, vaR, go_sem, ints, rows, rat, rats, ratsO, rtR, intsO, rowsO]
  simp -implicitDefEqProofs only [clR, Nat.reduceLeDiff, go_sem, evR, rat]
  refine ⟨by omega, by omega, by omega, fun y hy => ?_⟩
  rw [hx] at hy; cases hy
  exact ⟨rfl, by rw [hg]⟩
end Go.Ab

/- Contracts: drawn weights. -/
set_option linter.unusedSimpArgs false
set_option linter.unusedVariables false
namespace Go.Ab
open Go.Proofs

end Go.Ab

/- Contracts: drawn weights to be halved. -/
set_option linter.unusedSimpArgs false
set_option linter.unusedVariables false
namespace Go.Ab
open Go.Proofs

end Go.Ab

/- Contracts: small functions of the laws. -/
set_option linter.unusedSimpArgs false
set_option linter.unusedVariables false
namespace Go.Ab
open Go.Proofs

theorem laws_big_ok (cs : List Int) : Pure Try.prog 30 [bytes cs] (.b (decide ((cs.length : Int) > 4096))) := by
  refine fun_laws_big (by simp) ?_
  simp -implicitDefEqProofs only [go_sem, evR, ints, rows, rat, rats, c_laws_big, bytes]
theorem laws_likeInts_ok (a b : List Int) (ha : a.length ≤ 1000000000000) (hb : b.length ≤ 1000000000000) : Pure Try.prog 37 [ints a, ints b] (.b (decide (a = b))) := by
  refine fun_laws_likeInts (by simp) ?_
  simp -implicitDefEqProofs only [c_laws_likeInts, ints, go_sem]
  refine ⟨fun h => ?_, fun h => ?_⟩
  · have : a ≠ b := by rintro rfl; simp at h
    simp [this]
  · have hab : a.length = b.length := by simp at h; omega
    refine SemC.loopR (σ := Nat) (fun i => St.of [(0, .t (ints a)), (1, .t (ints b)), (5, .t (.i i))] []) (fun i => i ≤ a.length ∧ ∀ j, j < i → a[j]? = b[j]?) (fun i => a.length - i) 0 (Weak.of _ [] [] (by simp) (by simp) ?_ trivial) ⟨by simp, fun j hj => by omega⟩ fun i hI R hn hr he => ?_
    · simp -implicitDefEqProofs only [ints, wkR, Nat.reduceEqDiff, ↓reduceIte]
    · simp -implicitDefEqProofs only [ints, go_sem, toNat_cast]
      refine ⟨fun h => ⟨by omega, by omega, by omega, fun c x hx hc => ⟨by omega, by omega, by omega, fun c' y hy hc' => ?_⟩⟩, fun h => he _ _ ?_⟩
      · subst hc hc'
        simp -implicitDefEqProofs only [go_sem]
        refine ⟨fun h1 => hr _ ?_, fun h1 => hn _ (i + 1) (Weak.of _ [] [] (by simp) (by simp) ?_ trivial) ⟨by omega, fun j hj => ?_⟩ (by omega)⟩
        · simp -implicitDefEqProofs only [go_sem]
          have : a ≠ b := by rintro rfl; rw [hx] at hy; cases hy; simp at h1
          simp [this]
        · simp -implicitDefEqProofs only [ints, wkR, Nat.reduceEqDiff, ↓reduceIte, next64 (by omega : i < a.length) ha]
        · rcases Nat.lt_or_ge j i with h | h
          · exact hI.2 j h
          · have : j = i := by omega
            subst this
            rw [hx, hy]; simpa using h1
      · simp -implicitDefEqProofs only [go_sem]
        have : a = b := by
          refine List.ext_getElem? fun j => ?_
          rcases Nat.lt_or_ge j i with h | h
          · exact hI.2 j h
          · rw [List.getElem?_eq_none (by omega), List.getElem?_eq_none (by omega)]
        simp [this]
end Go.Ab

/- Contracts: drawn matrices. -/
set_option linter.unusedSimpArgs false
set_option linter.unusedVariables false
namespace Go.Ab
open Go.Proofs

def smallM (m : List (List Int)) : Prop := m.length ≤ 6 ∧ ∀ r ∈ m, r.length ≤ 6
theorem smallM_snoc {m : List (List Int)} {r : List Int} (h : ∀ r ∈ m, r.length ≤ 6) (hr : r.length ≤ 6) : ∀ x ∈ m ++ [r], x.length ≤ 6 := by
  intro x hx
  rcases List.mem_append.1 hx with hx | hx
  · exact h x hx
  · simp at hx; rw [hx]; exact hr
set_option maxRecDepth 20000 in
theorem spec_l26Draw_ok (cs : List Int) (hc : bytesOK cs) (hl : cs.length ≤ 100000000000) (a : Nat × Int) (ha : seedOK a) : Fun Try.prog 60 [.box [bytes cs, .i a.1, .i a.2]] [.own 1000000000] fun o r => ∃ x : List (List Int) × (Nat × Int), o = [.box [bytes cs, .i x.2.1, .i x.2.2]] ∧ r = rowsO x.1 ∧ (smallM x.1 ∧ seedOK x.2) := by
  refine Fun.le (Q := fun o r => ∃ x : List (List Int) × (Nat × Int), o = [.box [bytes cs, .i x.2.1, .i x.2.2]] ∧ (r = rowsO x.1 ∨ (r = .v (.slice none 0 0) ∧ x.1 = [])) ∧ (smallM x.1 ∧ seedOK x.2)) ?_ ?_
  · refine fun_spec_l26Draw_h (by simp) ?_
    simp -implicitDefEqProofs only [go_sem, evR, ints, rows, rat, rats, c_spec_l26Draw_h]
    refine CallW.ref (next_box cs hc hl a ha 4 (by omega)) [1000000000] [] rfl Try.call71 (by simp) ?_ (by simp) ?_ (.inl rfl) ?_
    · simp -implicitDefEqProofs only [srR, Nat.reduceEqDiff, ↓reduceIte, ints, rows, intsO, rowsO]
    · simp -implicitDefEqProofs only [agR, Nat.reduceLeDiff, Nat.reduceSub, vaR, go_sem, ints, rows, rat, rats, ratsO, rtR, intsO, rowsO]
    simp -implicitDefEqProofs only [clR, Nat.reduceLeDiff, go_sem, evR, rat]
    have hb1 := nextS_bound (cs := cs) (a := a) (show (1 : Int) ≤ 4 by omega)
    have hs1 := nextS_seed (cs := cs) hl ha 4
    generalize nextS cs a 4 = z at hb1 hs1 ⊢
    obtain ⟨n, a1⟩ := z
    simp only [] at hb1 hs1 ⊢
    refine CallW.ref (next_box cs hc hl a1 hs1 4 (by omega)) [1000000000] [] rfl Try.call71 (by simp) ?_ (by simp) ?_ (.inl rfl) ?_
    · simp -implicitDefEqProofs only [srR, Nat.reduceEqDiff, ↓reduceIte, ints, rows, intsO, rowsO]
    · simp -implicitDefEqProofs only [agR, Nat.reduceLeDiff, Nat.reduceSub, vaR, go_sem, ints, rows, rat, rats, ratsO, rtR, intsO, rowsO]
    simp -implicitDefEqProofs only [clR, Nat.reduceLeDiff, go_sem, evR, rat]
    have hb2 := nextS_bound (cs := cs) (a := a1) (show (1 : Int) ≤ 4 by omega)
    have hs2 := nextS_seed (cs := cs) hl hs1 4
    generalize nextS cs a1 4 = z at hb2 hs2 ⊢
    obtain ⟨n2, a2⟩ := z
    simp only [] at hb2 hs2 ⊢
    rw [wrap64 (n := 1 + n) (by omega) (by omega), wrap64 (n := 1 + n2) (by omega) (by omega)]
    obtain ⟨N, hN⟩ : ∃ N : Nat, 1 + n = (N : Int) := ⟨(1 + n).toNat, by omega⟩
    obtain ⟨M, hM⟩ : ∃ M : Nat, 1 + n2 = (M : Int) := ⟨(1 + n2).toNat, by omega⟩
    rw [hN, hM]
    have hp := pick_own cs hc hl a2 hs2 [2, 5, 20] (by simp) (by simp)
    simp only [intsO, List.map_cons, List.map_nil] at hp
    refine CallW.ref hp [1000000000, 17] [] rfl Try.call72 (by simp) ?_ (by simp) ?_ (.inl rfl) ?_
    · simp -implicitDefEqProofs only [srR, Nat.reduceEqDiff, ↓reduceIte, ints, rows, intsO, rowsO]
    · simp -implicitDefEqProofs only [agR, Nat.reduceLeDiff, Nat.reduceSub, vaR, go_sem, ints, rows, rat, rats, ratsO, rtR, intsO, rowsO]
    simp -implicitDefEqProofs only [clR, Nat.reduceLeDiff, go_sem, evR, rat]
    have hs3 := pickS_seed (cs := cs) hl hs2 [2, 5, 20]
    have hm3 := pickS_mem (cs := cs) (a := a2) (l := [2, 5, 20]) (by simp)
    generalize pickS cs a2 [2, 5, 20] = z at hs3 hm3 ⊢
    obtain ⟨most, a3⟩ := z
    simp only [List.mem_cons, List.not_mem_nil, or_false] at hs3 hm3 ⊢
    refine SemC.loopR (σ := List (List Int) × (Nat × Int)) (fun s => St.of [(0, .own 1000000000), (3, .t (.i N)), (4, .t (.i M)), (5, .t (.i most)), (6, .own 96), (7, .t (.i s.1.length))] [(1000000000, .box [bytes cs, .i s.2.1, .i s.2.2]), (96, .arr 1 (s.1.map intsO))]) (fun s => seedOK s.2 ∧ s.1.length ≤ N ∧ ∀ r ∈ s.1, r.length = M) (fun s => N - s.1.length) ([], a3) (Weak.of _ _ [some 1000000000, some 19] (by simp) (by simp) ?_ ?_) ⟨hs3, by simp, by simp⟩ fun s hI R hn hr he => ?_
    · simp -implicitDefEqProofs only [ints, rows, Nat.reduceBEq, wkR, Nat.reduceEqDiff, ↓reduceIte, wrR, List.length_nil]
    · exact ⟨⟨_, rfl, .refl _⟩, rfl, ⟨_, rfl, .refl _⟩, rfl, trivial⟩
    · obtain ⟨m, b⟩ := s
      obtain ⟨hb, hmN, hmr⟩ := hI
      (try simp only [] at hb hmN hmr)
      simp -implicitDefEqProofs only [go_sem, evR, ints, rows, rat, rats]
      refine ⟨fun h => ?_, fun h => he _ _ ?_⟩
      · refine SemC.loopR (σ := List Int × (Nat × Int)) (fun s => St.of [(0, .own 1000000000), (3, .t (.i N)), (4, .t (.i M)), (5, .t (.i most)), (6, .own 96), (7, .t (.i m.length)), (8, .own 97), (9, .t (.i s.1.length))] [(1000000000, .box [bytes cs, .i s.2.1, .i s.2.2]), (96, .arr 1 (m.map intsO)), (97, .arr 1 (s.1.map T.i))]) (fun s => seedOK s.2 ∧ s.1.length ≤ M) (fun s => M - s.1.length) ([], b) (Weak.of _ _ [some 1000000000, some 96, some 25] (by simp) (by simp) ?_ ?_) ⟨hb, by simp⟩ fun s hI R2 hn2 hr2 he2 => ?_
        · simp -implicitDefEqProofs only [ints, rows, Nat.reduceBEq, wkR, Nat.reduceEqDiff, ↓reduceIte, wrR, List.length_nil]
        · exact ⟨⟨_, rfl, .refl _⟩, rfl, ⟨_, rfl, .refl _⟩, rfl, ⟨_, rfl, .refl _⟩, rfl, trivial⟩
        · obtain ⟨l, c⟩ := s
          obtain ⟨hc1, hlM⟩ := hI
          (try simp only [] at hc1 hlM)
          simp -implicitDefEqProofs only [go_sem, evR, ints, rows, rat, rats]
          refine ⟨fun h1 => ?_, fun h1 => he2 _ _ ?_⟩
          · rw [wrap64 (n := 2 * most) (by omega) (by omega), wrap64 (n := 2 * most + 1) (by omega) (by omega)]
            refine CallW.ref (next_box cs hc hl c hc1 (2 * most + 1) (by omega)) [1000000000] [] rfl Try.call71 (by simp) ?_ (by simp) ?_ (.inl rfl) ?_
            · simp -implicitDefEqProofs only [srR, Nat.reduceEqDiff, ↓reduceIte, ints, rows, intsO, rowsO]
            · simp -implicitDefEqProofs only [agR, Nat.reduceLeDiff, Nat.reduceSub, vaR, go_sem, ints, rows, rat, rats, ratsO, rtR, intsO, rowsO]
            simp -implicitDefEqProofs only [clR, Nat.reduceLeDiff, go_sem, evR, rat]
            have hs4 := nextS_seed (cs := cs) hl hc1 (2 * most + 1)
            generalize nextS cs c (2 * most + 1) = z at hs4 ⊢
            obtain ⟨x, c2⟩ := z
            simp only [] at hs4 ⊢
            refine ⟨by omega, hn2 _ (l ++ [IntKind.i64.wrap (x - most)], c2) (Weak.of _ _ [some 1000000000, some 96, some 40] (by simp) (by simp) ?_ ?_) ⟨hs4, by simp; omega⟩ (by simp only [List.length_append, List.length_cons, List.length_nil]; omega)⟩
            · simp -implicitDefEqProofs only [ints, rows, Nat.reduceBEq, wkR, Nat.reduceEqDiff, ↓reduceIte, wrR, next64 (by omega : l.length < M) (by omega), List.length_append, List.length_cons, List.length_nil]
            · refine ⟨⟨_, rfl, .refl _⟩, rfl, ⟨_, rfl, .refl _⟩, rfl, ⟨_, rfl, ?_⟩, rfl, trivial⟩
              rw [List.map_append]; exact .refl _
          · simp -implicitDefEqProofs only [go_sem, evR, ints, rows, rat, rats]
            refine ⟨by omega, hn _ (m ++ [l], c) (Weak.of _ _ [some 1000000000, some 44] (by simp) (by simp) ?_ ?_) ⟨hc1, by simp; omega, ?_⟩ (by simp only [List.length_append, List.length_cons, List.length_nil]; omega)⟩
            · simp -implicitDefEqProofs only [ints, rows, Nat.reduceBEq, wkR, Nat.reduceEqDiff, ↓reduceIte, wrR, next64 (by omega : m.length < N) (by omega), List.length_append, List.length_cons, List.length_nil]
            · refine ⟨⟨_, rfl, .refl _⟩, rfl, ⟨_, rfl, ?_⟩, rfl, trivial⟩
              rw [List.map_append]; exact .refl _
            · intro r hr'
              rcases List.mem_append.1 hr' with hr' | hr'
              · exact hmr r hr'
              · simp at hr'; rw [hr']; omega
      · simp -implicitDefEqProofs only [go_sem, evR, ints, rows, rat, rats]
        have hmN' : m.length = N := by omega
        have hsm : smallM m := ⟨by omega, fun r hr' => by rw [hmr r hr']; omega⟩
        refine CallW.ref (next_box cs hc hl b hb 24 (by omega)) [1000000000] [] rfl Try.call71 (by simp) ?_ (by simp) ?_ (.inl rfl) ?_
        · simp -implicitDefEqProofs only [srR, Nat.reduceEqDiff, ↓reduceIte, ints, rows, intsO, rowsO]
        · simp -implicitDefEqProofs only [agR, Nat.reduceLeDiff, Nat.reduceSub, vaR, go_sem, ints, rows, rat, rats, ratsO, rtR, intsO, rowsO]
        simp -implicitDefEqProofs only [clR, Nat.reduceLeDiff, go_sem, evR, rat]
        have hs4 := nextS_seed (cs := cs) hl hb 24
        generalize nextS cs b 24 = z at hs4 ⊢
        obtain ⟨q, b2⟩ := z
        simp only [] at hs4 ⊢
        have hN1 : 1 ≤ m.length := by omega
        have hfit : ∀ (m' : List (List Int)), m'.length ≤ 6 → (∀ r ∈ m', r.length ≤ 6) → smallM m' := fun m' h1 h2 => ⟨h1, h2⟩
        refine ⟨fun hq => ?_, fun hq => ?_⟩
        · obtain ⟨r0, m', rfl⟩ : ∃ r0 m', m = r0 :: m' := by
            cases m with
            | nil => simp at hN1
            | cons r0 m' => exact ⟨r0, m', rfl⟩
          have hr0 : r0.length = M := hmr r0 (by simp)
          refine ⟨_, Weak.open 96 0 98 rfl rfl rfl (by decide) rfl, ?_⟩
          simp -implicitDefEqProofs only [go_sem, evR, ints, rows, rat, rats, List.lookup_cons, beq_self_eq_true]
          have hp := pick_own cs hc hl b2 hs4 [20, 21, -21] (by simp) (by simp)
          simp only [intsO, List.map_cons, List.map_nil] at hp
          refine ⟨by omega, ?_⟩
          refine CallH.ref hp [1000000000, 53] [] rfl Try.call72 (by simp) ?_ (by simp) (fun e R' hR => ?_) (.inl rfl) ?_
          · simp -implicitDefEqProofs only [srR, Nat.reduceEqDiff, ↓reduceIte, ints, rows, intsO, rowsO]
          · simp -implicitDefEqProofs only [agR, Nat.reduceLeDiff, Nat.reduceSub, vaR, go_sem, ints, rows, rat, rats, ratsO, rtR, intsO, rowsO]
          simp -implicitDefEqProofs only [clR, Nat.reduceLeDiff, go_sem, evR, rat]
          have hs5 := pickS_seed (cs := cs) hl hs4 [20, 21, -21]
          refine ⟨?_, ((frameOK.refl _ _ _).upd _ (.inl (by simp))).upd _ (.inl (by simp))⟩
          simp -implicitDefEqProofs only [go_sem, evR, ints, rows, rat, rats, intsO]
          refine ⟨by omega, by omega, ?_⟩
          refine ⟨_, Weak.join2 Try.prog tyOne (sl 50) (sl 51) rfl rfl rfl rfl (by decide) (by simp), ?_⟩
          simp -implicitDefEqProofs only [go_sem, evR, ints, rows, rat, rats]
          refine ⟨(r0.set 0 (pickS cs b2 [20, 21, -21]).1 :: m', (pickS cs b2 [20, 21, -21]).2), rfl, .inl ?_, ⟨by simpa using hsm.1, fun r hr' => ?_⟩, hs5⟩
          · rw [rowsO, List.map_cons, intsO, List.map_set]
          · rcases List.mem_cons.1 hr' with rfl | hr'
            · rw [List.length_set, hr0]; omega
            · exact hsm.2 r (by simp [hr'])
        · refine ⟨fun hq1 => ⟨by omega, _, Weak.refl _ _, ?_⟩, fun hq1 => ⟨fun hq2 => ⟨([], b2), rfl, .inr rfl, ⟨by simp, by simp⟩, hs4⟩, fun hq2 => ⟨_, Weak.refl _ _, ?_⟩⟩⟩
          · simp -implicitDefEqProofs only [go_sem, evR, ints, rows, rat, rats]
            refine ⟨(m ++ [[1, 2, 3, 4, 5]], b2), rfl, .inl ?_, ⟨by simp; omega, smallM_snoc (fun r hr' => by rw [hmr r hr']; omega) (by simp)⟩, hs4⟩
            rw [rowsO, List.map_append]; rfl
          · simp -implicitDefEqProofs only [go_sem, evR, ints, rows, rat, rats]
            exact ⟨(m, b2), rfl, .inl rfl, hsm, hs4⟩
  · rintro o r ⟨x, rfl, rfl | ⟨rfl, hx⟩, h⟩
    · exact ⟨_, .refl _, x, rfl, rfl, h⟩
    · refine ⟨_, .nilArr 1, x, rfl, ?_, h⟩
      rw [hx]; rfl
end Go.Ab

/- Contracts: drawn square matrices; likeLists; the law FnAdjugates. -/
set_option linter.unusedSimpArgs false
set_option linter.unusedVariables false
namespace Go.Ab
open Go.Proofs

def partM (m : List (List Int)) (R C : List Int) : List (List Int) := R.map fun i => C.map fun j => (m.getD i.toNat []).getD j.toNat 0
theorem partM_length (m : List (List Int)) (R C : List Int) : (partM m R C).length = R.length := by simp [partM]
end Go.Ab

/- Contracts: what kernels are made of. -/
set_option linter.unusedSimpArgs false
set_option linter.unusedVariables false
namespace Go.Ab
open Go.Proofs

def pickL (l : List Int) (c : List Int) : List Int := c.map fun j => l.getD j.toNat 0
def sub (m : List (List Int)) (r c : List Int) : List (List Int) := r.map fun i => pickL (m.getD i.toNat []) c
def sgR (n d : Int) : (Int × Int) × Int := if d < 0 then redR (-n) (-d) else redR n d
section
attribute [-go_sem] load1C load1V fldC lenC idxC loadNV
set_option maxRecDepth 20000 in
theorem impl_chosen_ok (l c : List Int) (hc : ∀ j ∈ c, 0 ≤ j ∧ j < l.length) (hl : c.length ≤ 1000000) : Fun Try.prog 99 [] [.t (ints l), .t (ints c)] fun o r => o = [] ∧ r = intsO (pickL l c) := by
  refine fun_impl_chosen (by simp) ?_
  simp -implicitDefEqProofs only [go_sem, evR, ints, rows, rat, rats, c_impl_chosen]
  refine ⟨by omega, by omega, ?_⟩
  refine SemC.loopR (σ := Nat) (fun i => St.of [(0, .t (ints l)), (5, .own 10), (11, .t (ints c)), (12, .t (.i c.length)), (13, .t (.i i))] [(10, .arr 1 (filled c (fun j => T.i (l.getD j.toNat 0)) (.i 0) i))]) (fun i => i ≤ c.length) (fun i => c.length - i) 0 (Weak.of _ _ [some 10] (by simp) (by simp) ?_ ?_) (by omega) fun i hi R hn hr he => ?_
  · simp -implicitDefEqProofs only [ints, rows, Nat.reduceBEq, wkR, Nat.reduceEqDiff, ↓reduceIte, wrR]
  · exact ⟨⟨_, rfl, by rw [made_one, filled_zero]; exact .refl _⟩, rfl, trivial⟩
  · have hfl := filled_length c (fun j => T.i (l.getD j.toNat 0)) (.i 0) i hi
    rcases Nat.lt_or_ge i c.length with h9 | h9
    · obtain ⟨j, hj⟩ : ∃ j, c[i]? = some j := ⟨_, List.getElem?_eq_getElem h9⟩
      have hjb := hc j (List.mem_of_getElem? hj)
      obtain ⟨y, hy⟩ : ∃ y, l[j.toNat]? = some y := ⟨_, List.getElem?_eq_getElem (by omega)⟩
      have hyd : l.getD j.toNat 0 = y := by rw [List.getD_eq_getElem?_getD, hy]; rfl
      simp -implicitDefEqProofs only [go_sem, evR, ints, rows, rat, rats, hj, hy, hfl, decide_eq_true (show (i : Int) < (c.length : Int) by omega)]
      refine ⟨by omega, by omega, by omega, by omega, by omega, by omega, by omega, by omega, by omega, hn _ (i + 1) (Weak.of _ _ [some 10] (by simp) (by simp) ?_ ?_) (by omega) (by omega)⟩
      · simp -implicitDefEqProofs only [ints, rows, Nat.reduceBEq, wkR, Nat.reduceEqDiff, ↓reduceIte, wrR, next64 h9 (by omega)]
      · refine ⟨⟨_, rfl, ?_⟩, rfl, trivial⟩
        rw [← filled_set hj, hyd]; exact .refl _
    · simp -implicitDefEqProofs only [go_sem, evR, ints, rows, rat, rats, decide_eq_false (show ¬ (i : Int) < (c.length : Int) by omega)]
      refine he _ _ ?_
      simp -implicitDefEqProofs only [go_sem, evR, ints, rows, rat, rats]
      rw [show i = c.length by omega, filled_all, intsO, pickL, List.map_map]; rfl
set_option maxRecDepth 20000 in
theorem impl_indicesOf_ok (c : List Int) (hl : c.length ≤ 1000000) : Fun Try.prog 79 [] [.t (ints c)] fun o r => o = [] ∧ r = intsO c := by
  refine fun_impl_indicesOf (by simp) ?_
  simp -implicitDefEqProofs only [go_sem, evR, ints, rows, rat, rats, c_impl_indicesOf]
  refine ⟨by omega, by omega, ?_⟩
  refine SemC.loopR (σ := Nat) (fun i => St.of [(3, .own 8), (9, .t (ints c)), (10, .t (.i c.length)), (11, .t (.i i))] [(8, .arr 1 (filled c T.i (.i 0) i))]) (fun i => i ≤ c.length) (fun i => c.length - i) 0 (Weak.of _ _ [some 8] (by simp) (by simp) ?_ ?_) (by omega) fun i hi R hn hr he => ?_
  · simp -implicitDefEqProofs only [ints, rows, Nat.reduceBEq, wkR, Nat.reduceEqDiff, ↓reduceIte, wrR]
  · exact ⟨⟨_, rfl, by rw [made_one, filled_zero]; exact .refl _⟩, rfl, trivial⟩
  · have hfl := filled_length c T.i (.i 0) i hi
    rcases Nat.lt_or_ge i c.length with h9 | h9
    · obtain ⟨j, hj⟩ : ∃ j, c[i]? = some j := ⟨_, List.getElem?_eq_getElem h9⟩
      simp -implicitDefEqProofs only [go_sem, evR, ints, rows, rat, rats, hj, hfl, decide_eq_true (show (i : Int) < (c.length : Int) by omega)]
      refine ⟨by omega, by omega, by omega, by omega, by omega, by omega, hn _ (i + 1) (Weak.of _ _ [some 8] (by simp) (by simp) ?_ ?_) (by omega) (by omega)⟩
      · simp -implicitDefEqProofs only [ints, rows, Nat.reduceBEq, wkR, Nat.reduceEqDiff, ↓reduceIte, wrR, next64 h9 (by omega)]
      · refine ⟨⟨_, rfl, ?_⟩, rfl, trivial⟩
        rw [← filled_set hj]; exact .refl _
    · simp -implicitDefEqProofs only [go_sem, evR, ints, rows, rat, rats, decide_eq_false (show ¬ (i : Int) < (c.length : Int) by omega)]
      refine he _ _ ?_
      simp -implicitDefEqProofs only [go_sem, evR, ints, rows, rat, rats]
      rw [show i = c.length by omega, filled_all, intsO]
theorem impl_signedRatio_ok (n d : Int) (n0 : -9000000000000000000 < n) (n1 : n < 9000000000000000000) (d0 : d ≠ 0) (d1 : -9000000000000000000 < d) (d2 : d < 9000000000000000000) : Pure Try.prog 102 [.i n, .i d] (.tup [rat (sgR n d).1, .b ((sgR n d).2 == 0)]) := by
  refine fun_impl_signedRatio (by simp) ?_
  simp -implicitDefEqProofs only [go_sem, evR, ints, rows, rat, rats, c_impl_signedRatio]
  refine ⟨fun h => ?_, fun h => ?_⟩
  · have h : d < 0 := by simpa using h
    rw [wrap64 (n := 0 - n) (by omega) (by omega), wrap64 (n := 0 - d) (by omega) (by omega), sgR, if_pos h, show 0 - n = -n by omega, show 0 - d = -d by omega]
    refine CallW.res (impl_reduced_ok (-n) (-d) (by omega) (by omega) (by omega) (by omega)) [] rfl Try.call119 ?_ (.inl rfl) ?_
    · simp -implicitDefEqProofs only [agR, Nat.reduceLeDiff, Nat.reduceSub, vaR, go_sem, ints, rows, rat, rats, ratsO, rtR, intsO, rowsO]
    simp -implicitDefEqProofs only [clR, Nat.reduceLeDiff, go_sem, evR, rat, redT]
  · have h : ¬ d < 0 := by simpa using h
    rw [sgR, if_neg h]
    refine CallW.res (impl_reduced_ok n d (by omega) (by omega) (by omega) (by omega)) [] rfl Try.call119 ?_ (.inl rfl) ?_
    · simp -implicitDefEqProofs only [agR, Nat.reduceLeDiff, Nat.reduceSub, vaR, go_sem, ints, rows, rat, rats, ratsO, rtR, intsO, rowsO]
    simp -implicitDefEqProofs only [clR, Nat.reduceLeDiff, go_sem, evR, rat, redT]
theorem sub_snoc (m : List (List Int)) {r : List Int} {c : List Int} {i : Nat} {x : Int} (h : r[i]? = some x) : sub m (r.take (i + 1)) c = sub m (r.take i) c ++ [pickL (m.getD x.toNat []) c] := by
  rw [sub, take_snoc h, List.map_append]; rfl
theorem comb_zero (d : Nat) (lo : Int) : comb d 0 lo = [[]] := by cases d <;> rfl
end
end Go.Ab

/- The value of two mixes lies between; the best index; errors of sums. -/
set_option linter.unusedSimpArgs false
set_option linter.unusedVariables false
namespace Go.Ab
open Go.Proofs

theorem tr_small {m : List (List Int)} (h : ∀ r ∈ m, ∀ x ∈ r, -20 ≤ x ∧ x ≤ 20) (c : Nat) : ∀ r ∈ tr m c, ∀ x ∈ r, -20 ≤ x ∧ x ≤ 20 := by
  intro r hr x hx
  obtain ⟨k, _, rfl⟩ := List.mem_map.1 hr
  obtain ⟨row, hrow, rfl⟩ := List.mem_map.1 hx
  rw [List.getD_eq_getElem?_getD]
  cases hc : row[k]? with
  | none => simp
  | some y => exact h row hrow y (List.mem_of_getElem? hc)
end Go.Ab

/- Contracts: mixes of a kernel. -/
set_option linter.unusedSimpArgs false
set_option linter.unusedVariables false
namespace Go.Ab
open Go.Proofs
section
attribute [-go_sem] load1C load1V fldC lenC idxC loadNV
def mixI (n : Nat) (at' parts : List Int) (d : Int) : Nat → List (Int × Int)
  | 0 => List.replicate n (0, 1)
  | i + 1 => (mixI n at' parts d i).set (at'.getD i 0).toNat (sgR (parts.getD i 0) d).1
def mixK (n : Nat) (at' parts : List Int) (d : Int) : List (Int × Int) := mixI n at' parts d at'.length
theorem mixI_length (n : Nat) (at' parts : List Int) (d : Int) : ∀ i, (mixI n at' parts d i).length = n
  | 0 => by simp [mixI]
  | i + 1 => by rw [mixI, List.length_set, mixI_length]
def bigL (l : List Int) : Prop := ∀ x ∈ l, -1000000000000 ≤ x ∧ x ≤ 1000000000000
def cl (l : List (List Int)) (i : Nat) : List Int := l.map fun r => r.getD i 0
end
end Go.Ab

/- Contracts: what a kernel gives. -/
set_option linter.unusedSimpArgs false
set_option linter.unusedVariables false
namespace Go.Ab
open Go.Proofs
section
attribute [-go_sem] load1C load1V fldC lenC idxC loadNV
def rsum (a : List (List Int)) : List Int := a.map List.sum
def kB (m : List (List Int)) (r c : List Int) : List (List Int) := partM m r c
def kA (m : List (List Int)) (r c : List Int) : List (List Int) := adjM r.length (kB m r c)
def kD (m : List (List Int)) (r c : List Int) : Int := (rsum (kA m r c)).sum
def kernX (m : List (List Int)) (r c : List Int) : Sol :=
  ⟨mixK m.length r (rsum (tr (kA m r c) r.length)) (kD m r c), mixK (wid m) c (rsum (kA m r c)) (kD m r c), (sgR (detN r.length (kB m r c)) (kD m r c)).1⟩
def zeroT : T := .agg [.v (.slice none 0 0), .v (.slice none 0 0), .v (.int .i64 0), .v (.int .i64 0)]
def kerIx (m : List (List Int)) (r c : List Int) : Prop := 1 ≤ r.length ∧ r.length ≤ 4 ∧ c.length = r.length ∧ (∀ i ∈ r, 0 ≤ i ∧ i < m.length) ∧ (∀ j ∈ c, 0 ≤ j ∧ j < wid m)
theorem kB_sq {m : List (List Int)} {r c : List Int} (hm : isMat m = true) (h : kerIx m r c) : sq r.length (kB m r c) := by
  obtain ⟨h1, h2, h3, h4, h5, h6⟩ := isMat_spec hm
  obtain ⟨k1, k2, k3, k4, k5⟩ := h
  refine ⟨partM_length _ _ _, fun y hy => ?_⟩
  obtain ⟨i, hi, rfl⟩ := List.mem_map.1 hy
  refine ⟨by rw [List.length_map, k3], fun x hx => ?_⟩
  obtain ⟨j, hj, rfl⟩ := List.mem_map.1 hx
  have hib := k4 i hi
  have hjb := k5 j hj
  obtain ⟨row, hrow⟩ : ∃ row, m[i.toNat]? = some row := ⟨_, List.getElem?_eq_getElem (by omega)⟩
  have hrl : row.length = wid m := h5 row (List.mem_of_getElem? hrow)
  obtain ⟨x, hx⟩ : ∃ x, row[j.toNat]? = some x := ⟨_, List.getElem?_eq_getElem (by omega)⟩
  rw [List.getD_eq_getElem?_getD, List.getD_eq_getElem?_getD, hrow, Option.getD_some, hx]
  exact h6 row (List.mem_of_getElem? hrow) x (List.mem_of_getElem? hx)
theorem kA_length (m : List (List Int)) (r c : List Int) : (kA m r c).length = r.length := by simp [kA, adjM]
theorem kA_rows {m : List (List Int)} {r c : List Int} (hm : isMat m = true) (h : kerIx m r c) : ∀ y ∈ kA m r c, y.length = r.length ∧ ∀ x ∈ y, -3840000 ≤ x ∧ x ≤ 3840000 := by
  intro y hy
  obtain ⟨i, hi, rfl⟩ := List.mem_map.1 hy
  rw [List.mem_range] at hi
  refine ⟨adjRow_length _ _ _ _, fun x hx => ?_⟩
  obtain ⟨j, hj, rfl⟩ := List.mem_map.1 hx
  rw [List.mem_range] at hj
  obtain ⟨-, h1, h2⟩ := minor_abs (kB_sq hm h) h.2.1 hi hj
  rcases sg_abs (i + j) with e | e <;> rw [e] <;> omega
theorem sum_abs {b : Int} (hb : 0 ≤ b) : ∀ {l : List Int}, (∀ x ∈ l, -b ≤ x ∧ x ≤ b) → -(b * l.length) ≤ l.sum ∧ l.sum ≤ b * l.length
  | [], _ => by simp
  | a :: l, h => by
    have h1 := sum_abs hb (l := l) fun x hx => h x (List.mem_cons_of_mem _ hx)
    have h2 := h a (by simp)
    simp only [List.sum_cons, List.length_cons]
    rw [show b * ((l.length + 1 : Nat) : Int) = b * l.length + b by rw [Int.natCast_add, Int.mul_add]; simp]
    omega
theorem rsum_abs {a : List (List Int)} (h : ∀ y ∈ a, y.length ≤ 4 ∧ ∀ x ∈ y, -3840000 ≤ x ∧ x ≤ 3840000) : ∀ x ∈ rsum a, -15360000 ≤ x ∧ x ≤ 15360000 := by
  intro x hx
  obtain ⟨y, hy, rfl⟩ := List.mem_map.1 hx
  have h1 := sum_abs (b := 3840000) (by omega) (fun x hx => (h y hy).2 x hx)
  have h2 := (h y hy).1
  omega
theorem sums_abs {l : List Int} (hl : l.length ≤ 4) (h : ∀ x ∈ l, -15360000 ≤ x ∧ x ≤ 15360000) (i : Nat) : -61440000 ≤ (l.take i).sum ∧ (l.take i).sum ≤ 61440000 := by
  have h1 := sum_abs (b := 15360000) (by omega) (l := l.take i) (fun x hx => h x (List.mem_of_mem_take hx))
  have h2 : (l.take i).length ≤ 4 := by rw [List.length_take]; omega
  omega
theorem small_of {l : List Int} (hl : l.length ≤ 4) (h : ∀ x ∈ l, -3840000 ≤ x ∧ x ≤ 3840000) : smallL l := ⟨by omega, fun x hx => by have := h x hx; omega⟩
theorem col_abs {a : List (List Int)} {n : Nat} (hl : a.length ≤ 4) (h : ∀ y ∈ a, y.length = n ∧ ∀ x ∈ y, -3840000 ≤ x ∧ x ≤ 3840000) (k : Nat) : (colOf a k).length ≤ 4 ∧ ∀ x ∈ colOf a k, -3840000 ≤ x ∧ x ≤ 3840000 := by
  refine ⟨by simpa [colOf] using hl, fun x hx => ?_⟩
  obtain ⟨y, hy, rfl⟩ := List.mem_map.1 hx
  rw [List.getD_eq_getElem?_getD]
  rcases Nat.lt_or_ge k y.length with hk | hk
  · rw [List.getElem?_eq_getElem hk]; exact (h y hy).2 _ (List.getElem_mem hk)
  · rw [List.getElem?_eq_none hk]; simp
end
end Go.Ab

/- The first kernel, as data. -/
set_option linter.unusedSimpArgs false
set_option linter.unusedVariables false
namespace Go.Ab
open Go.Proofs
theorem fs_at {α β : Type} {f : α → Option β} {x : α} {y : β} : ∀ {l : List α} {i : Nat}, l[i]? = some x → f x = some y → (∀ z ∈ l.take i, f z = none) → l.findSome? f = some y
  | [], i, h, _, _ => by simp at h
  | a :: l, 0, h, hf, _ => by simp at h; rw [List.findSome?_cons, h, hf]
  | a :: l, i + 1, h, hf, hz => by
    rw [List.findSome?_cons, hz a (by simp)]
    exact fs_at (i := i) (by simpa using h) hf fun z hz' => hz z (by simp [hz'])
theorem fs_none {α β : Type} {f : α → Option β} {l : List α} (h : ∀ z ∈ l, f z = none) : l.findSome? f = none := by simpa using h
theorem fs_some {α β : Type} {f : α → Option β} {l : List α} {y : β} (h : l.findSome? f = some y) : ∃ x ∈ l, f x = some y := List.exists_of_findSome?_eq_some h
def hitB (m : List (List Int)) (r c : List Int) : Bool := decide (kD m r c ≠ 0) && isSolB m (kernX m r c)
def colF (m : List (List Int)) (r c : List Int) : Option (List Int × List Int) := if hitB m r c then some (r, c) else none
def rowF (m : List (List Int)) (k : Nat) (r : List Int) : Option (List Int × List Int) := (comb (wid m) k 0).findSome? (colF m r)
def sizeF (m : List (List Int)) (k : Nat) : Option (List Int × List Int) := (comb m.length k 0).findSome? (rowF m k)
def firstF (m : List (List Int)) : Option (List Int × List Int) := (List.range (min m.length (wid m))).findSome? fun k => sizeF m (k + 1)
theorem colF_none {m : List (List Int)} {r c : List Int} (h : hitB m r c = false) : colF m r c = none := by rw [colF, h]; rfl
theorem firstF_ix {m : List (List Int)} {r c : List Int} (hm : isMat m = true) (h : firstF m = some (r, c)) : hitB m r c = true ∧ kerIx m r c := by
  obtain ⟨m1, m2, m3, m4, m5, m6⟩ := isMat_spec hm
  obtain ⟨k, hk, h1⟩ := fs_some h
  obtain ⟨r', hr, h2⟩ := fs_some h1
  obtain ⟨c', hc, h3⟩ := fs_some h2
  rw [List.mem_range] at hk
  unfold colF at h3
  split at h3 <;> rename_i hh
  · cases h3
    refine ⟨hh, ?_⟩
    have l1 := comb_len _ _ _ r hr
    have l2 := comb_len _ _ _ c hc
    refine ⟨by omega, by omega, by omega, fun i hi => ?_, fun j hj => ?_⟩
    · have := comb_bound _ _ _ r hr i hi; omega
    · have := comb_bound _ _ _ c hc j hj; omega
  · cases h3
theorem kerIx_of {m : List (List Int)} (hm : isMat m = true) {k : Nat} (h1 : 1 ≤ k) (h2 : k ≤ m.length) {r c : List Int} (hr : r ∈ comb m.length k 0) (hc : c ∈ comb (wid m) k 0) : kerIx m r c := by
  obtain ⟨m1, m2, m3, m4, m5, m6⟩ := isMat_spec hm
  have l1 := comb_len _ _ _ r hr
  have l2 := comb_len _ _ _ c hc
  refine ⟨by omega, by omega, by omega, fun i hi => ?_, fun j hj => ?_⟩
  · have := comb_bound _ _ _ r hr i hi; omega
  · have := comb_bound _ _ _ c hc j hj; omega
def noneI (m : List (List Int)) (k : Nat) : Prop := ∀ k' < k, sizeF m (k' + 1) = none
def noneR (m : List (List Int)) (k i : Nat) : Prop := ∀ r ∈ (comb m.length k 0).take i, rowF m k r = none
def noneC (m : List (List Int)) (k : Nat) (r : List Int) (j : Nat) : Prop := ∀ c ∈ (comb (wid m) k 0).take j, colF m r c = none
theorem noneC_succ {m : List (List Int)} {k : Nat} {r c : List Int} {j : Nat} (h : noneC m k r j) (hc : (comb (wid m) k 0)[j]? = some c) (hh : hitB m r c = false) : noneC m k r (j + 1) := by
  intro x hx
  rw [take_snoc hc] at hx
  rcases List.mem_append.1 hx with hx | hx
  · exact h x hx
  · simp at hx; rw [hx]; exact colF_none hh
theorem noneR_succ {m : List (List Int)} {k : Nat} {r : List Int} {i j : Nat} (h : noneR m k i) (hr : (comb m.length k 0)[i]? = some r) (hj : (comb (wid m) k 0).length ≤ j) (hh : noneC m k r j) : noneR m k (i + 1) := by
  intro x hx
  rw [take_snoc hr] at hx
  rcases List.mem_append.1 hx with hx | hx
  · exact h x hx
  · simp at hx; rw [hx]; exact fs_none fun c hc => hh c (by rw [List.take_of_length_le hj]; exact hc)
theorem noneI_succ {m : List (List Int)} {k i : Nat} (h : noneI m k) (hi : (comb m.length (k + 1) 0).length ≤ i) (hr : noneR m (k + 1) i) : noneI m (k + 1) := by
  intro k' hk
  rcases Nat.lt_or_ge k' k with h1 | h1
  · exact h k' h1
  · rw [show k' = k by omega]; exact fs_none fun r hr' => hr r (by rw [List.take_of_length_le hi]; exact hr')
theorem firstF_none {m : List (List Int)} {k : Nat} (h : noneI m k) (hk : min m.length (wid m) ≤ k) : firstF m = none := fs_none fun k' hk' => by
  rw [List.mem_range] at hk'; exact h k' (by omega)
theorem firstF_some {m : List (List Int)} {k i j : Nat} {r c : List Int} (hk : k < min m.length (wid m)) (h : noneI m k) (hr : (comb m.length (k + 1) 0)[i]? = some r) (hR : noneR m (k + 1) i) (hc : (comb (wid m) (k + 1) 0)[j]? = some c) (hC : noneC m (k + 1) r j) (hh : hitB m r c = true) : firstF m = some (r, c) := by
  refine fs_at (i := k) (x := k) (by simp [hk]) ?_ fun z hz => h z (by simpa using (List.mem_take_iff_getElem.1 hz).elim fun i hi => by obtain ⟨h1, h2⟩ := hi; simp at h2; omega)
  refine fs_at hr ?_ hR
  exact fs_at hc (by rw [colF, hh]; rfl) hC
end Go.Ab

/- Functions in compact form, with hints. -/
set_option linter.unusedVariables false
namespace Go.Ab
open Go.Proofs

def c_impl_firstKernel_h : CC :=
 (.seq (.reg [.o (.box 1 (sl 0)),
 .o (.alloc 2 [.v (.slice none 0 0), .v (.slice none 0 0), .v (.int .i64 0), .v (.int .i64 0)]),
 .o (.alloc 3 [.v (.slice none 0 0)]),
 .o (.alloc 4 [.v (.slice none 0 0)])])
 ((.seq (.seq (.reg [.o (.alloc 5 [.v (.int .i64 0)]),
 .o (.store 1 (sl 5) (ci 1))])
 ((.block 0 (.loop (.seq (.seq (.draw [] [(kR, .o (.load1 10 (sl 5))),
 (kR, .o (.load1 11 (sl 1))),
 (kR, .o (.lenS 12 (sl 11))),
 (kR, .o (.load1 13 (sl 1))),
 (kR, .o (.idx 14 1 (sl 13) (ci 0))),
 (kR, .o (.load1 15 (sl 14))),
 (kR, .o (.lenS 16 (sl 15))),
 (kR, .o (.mm 17 false (sl 12) (sl 16))),
 (kR, .o (.bin 18 .leq (sl 10) (sl 17)))])
 ((.cond (sl 18) .skip
 (.exit 0))))
 ((.seq (.block 1 (.seq (.reg [.o (.load1 21 (sl 1)),
 .o (.lenS 22 (sl 21)),
 .o (.load1 23 (sl 5)),
 .o (.call (some 24) (cf 77) [(sl 22), (sl 23)])])
 ((.block 2 (.rng (sl 24) [25] (.reg [.o (.alloc 6 [.v (.slice none 0 0)]),
 .o (.store 1 (sl 6) (sl 25))])
 (.block 3 (.seq (.draw [31] [(kR, .o (.load1 26 (sl 1))),
 (kR, .o (.idx 27 1 (sl 26) (ci 0))),
 (kR, .o (.load1 28 (sl 27))),
 (kR, .o (.lenS 29 (sl 28))),
 (kR, .o (.load1 30 (sl 5))),
 (.c false [], .o (.call (some 31) (cf 77) [(sl 29), (sl 30)]))])
 ((.block 4 (.rng (sl 31) [32] (.reg [.o (.move 7 (sl 32))])
 (.block 5 (.seq (.reg [.o (.load1 34 (sl 1)),
 .o (.load1 35 (sl 6)),
 .o (.move 36 (sl 7)),
 .o (.call (some 37) (cf 78) [(sl 34), (sl 35), (sl 36)]),
 .o (.move 33 (sl 37)),
 .o (.extract 38 (sl 33) 0),
 .o (.extract 39 (sl 33) 1),
 .o (.alloc 8 [.v (.slice none 0 0), .v (.slice none 0 0), .v (.int .i64 0), .v (.int .i64 0)]),
 .o (.store 4 (sl 8) (sl 38)),
 .o (.move 9 (sl 39))])
 ((.seq (.reg [.o (.move 40 (sl 9))])
 ((.cond (sl 40) (.seq (.weak (.draw [43, 45] [(kR, .o (.loadN 41 4 (sl 8))),
 (kR, .o (.load1 42 (sl 6))),
 (.c false [], .o (.call (some 43) (cf 79) [(sl 42)])),
 (.r false [43], .o (.move 44 (sl 7))),
 (.c false [], .o (.call (some 45) (cf 79) [(sl 44)])),
 (kH, .o (.store 4 (sl 2) (sl 41))),
 (kH, .o (.store 1 (sl 3) (sl 43))),
 (kH, .o (.store 1 (sl 4) (sl 45)))]))
 (.ret))
 .skip))))))))))))))))
 ((.seq (.seq (.reg [.o (.load1 46 (sl 5))])
 ((.reg [.o (.alloc 5 [.v (.int .i64 0)]),
 .o (.store 1 (sl 5) (sl 46))])))
 ((.reg [.o (.load1 19 (sl 5)),
 .o (.bin 20 .add (sl 19) (ci 1)),
 .o (.store 1 (sl 5) (sl 20))])))))))))))
 ((.seq (.reg [.o (.build 47 [.v (.slice none 0 0), .v (.slice none 0 0), .v (.int .i64 0), .v (.int .i64 0)] [(0, 1), (1, 1), (2, 2)] []),
 .o (.store 4 (sl 2) (sl 47)),
 .o (.store 1 (sl 3) (cv (.slice none 0 0))),
 .o (.store 1 (sl 4) (cv (.slice none 0 0)))])
 (.ret))))))
theorem fun_impl_firstKernel_h {rin : List T} {args : List A} {Q : List T → T → Prop} (ha : args.length ≤ 48) (h : cW Try.prog 48 c_impl_firstKernel_h (retP Try.prog [.cell 2 41, .cell 3 34, .cell 4 34] rin.length Q) (St.of (enum 0 args) (enum 1000000000 rin))) :
    Fun Try.prog 55 rin args Q :=
  Fun.of (H := ⟨[], [10]⟩) Try.func55 rfl rfl rfl (by kernel_rfl) ha (by decide) h

def c_impl_kernelSolution_h : CC :=
 (.seq (.reg [.o (.alloc 6 [.v (.slice none 0 0), .v (.slice none 0 0), .v (.int .i64 0), .v (.int .i64 0)]),
 .o (.move 7 (cb false))])
 ((.seq (.reg [.o (.move 8 (cv (.slice none 0 0)))])
 ((.seq (.seq (.reg [.o (.move 22 (sl 1)),
 .o (.lenS 23 (sl 22)),
 .o (.move 24 (ci 0))])
 ((.block 0 (.loop (.seq (.reg [.o (.bin 25 .lss (sl 24) (sl 23))])
 ((.seq (.cond (sl 25) .skip
 (.exit 0))
 ((.seq (.block 1 (.seq (.reg [.o (.idx 26 1 (sl 22) (sl 24)),
 .o (.load1 27 (sl 26)),
 .o (.move 10 (sl 27))])
 ((.reg [.o (.move 28 (sl 8)),
 .o (.move 29 (sl 0)),
 .o (.move 30 (sl 10)),
 .o (.idx 31 1 (sl 29) (sl 30)),
 .o (.load1 32 (sl 31)),
 .o (.move 33 (sl 2)),
 .o (.call (some 34) (cf 99) [(sl 32), (sl 33)]),
 .o (.bslice 35 1 1 [(0, (sl 34))]),
 .o (.app 36 1 24 (sl 28) (sl 35)),
 .o (.move 8 (sl 36))]))))
 ((.reg [.o (.bin 37 .add (sl 24) (ci 1)),
 .o (.move 24 (sl 37))])))))))))))
 ((.seq (.reg [.o (.move 38 (sl 8)),
 .o (.call (some 39) (cf 100) [(sl 38)]),
 .o (.move 11 (sl 39))])
 ((.seq (.reg [.o (.move 12 (ci 0))])
 ((.seq (.seq (.reg [.o (.move 40 (sl 11)),
 .o (.lenS 41 (sl 40)),
 .o (.move 42 (ci 0))])
 ((.block 2 (.loop (.seq (.reg [.o (.bin 43 .lss (sl 42) (sl 41))])
 ((.seq (.cond (sl 43) .skip
 (.exit 2))
 ((.seq (.block 3 (.seq (.reg [.o (.idx 44 1 (sl 40) (sl 42)),
 .o (.load1 45 (sl 44)),
 .o (.move 14 (sl 45))])
 ((.reg [.o (.move 46 (sl 12)),
 .o (.move 47 (sl 14)),
 .o (.call (some 48) (cf 101) [(sl 47)]),
 .o (.bin 49 .add (sl 46) (sl 48)),
 .o (.move 12 (sl 49))]))))
 ((.reg [.o (.bin 50 .add (sl 42) (ci 1)),
 .o (.move 42 (sl 50))])))))))))))
 ((.seq (.seq (.reg [.o (.move 51 (sl 12)),
 .o (.bin 52 .eql (sl 51) (ci 0))])
 ((.cond (sl 52) (.seq (.reg [.o (.build 53 [.v (.slice none 0 0), .v (.slice none 0 0), .v (.int .i64 0), .v (.int .i64 0)] [(0, 1), (1, 1), (2, 2)] []),
 .o (.store 4 (sl 6) (sl 53)),
 .o (.move 7 (cb false))])
 (.ret))
 .skip)))
 ((.seq (.draw [56, 61, 15] [(kR, .o (.move 54 (sl 0))),
 (kR, .o (.lenS 55 (sl 54))),
 (kN, .o (.make 56 [.v (.int .i64 0), .v (.int .i64 0)] 16 (sl 55) (sl 55))),
 (.r false [56], .o (.move 57 (sl 0))),
 (.r false [56], .o (.idx 58 1 (sl 57) (ci 0))),
 (.r false [56], .o (.load1 59 (sl 58))),
 (.r false [56], .o (.lenS 60 (sl 59))),
 (kN, .o (.make 61 [.v (.int .i64 0), .v (.int .i64 0)] 16 (sl 60) (sl 60))),
 (kR, .o (.build 62 [.v (.slice none 0 0), .v (.slice none 0 0), .v (.int .i64 0), .v (.int .i64 0)] [(0, 1), (1, 1), (2, 2)] [(0, (sl 56)), (1, (sl 61))])),
 (kN, .o (.alloc 15 [.v (.slice none 0 0), .v (.slice none 0 0), .v (.int .i64 0), .v (.int .i64 0)])),
 (kH, .o (.store 4 (sl 15) (sl 62)))])
 ((.seq (.seq (.reg [.o (.fld 63 0 (sl 15)),
 .o (.load1 64 (sl 63)),
 .o (.lenS 65 (sl 64)),
 .o (.move 66 (ci 0))])
 ((.block 4 (.loop (.seq (.reg [.o (.bin 67 .lss (sl 66) (sl 65))])
 ((.seq (.cond (sl 67) .skip
 (.exit 4))
 ((.seq (.block 5 (.seq (.reg [.o (.move 68 (sl 66)),
 .o (.move 16 (sl 68))])
 ((.reg [.o (.fld 69 0 (sl 15)),
 .o (.load1 70 (sl 69)),
 .o (.move 71 (sl 16)),
 .o (.build 72 [.v (.int .i64 0), .v (.int .i64 0)] [(0, 1), (1, 1)] [(0, (ci 0)), (1, (ci 1))]),
 .o (.idx 73 2 (sl 70) (sl 71)),
 .o (.store 2 (sl 73) (sl 72))]))))
 ((.reg [.o (.bin 74 .add (sl 66) (ci 1)),
 .o (.move 66 (sl 74))])))))))))))
 ((.seq (.seq (.reg [.o (.fld 75 1 (sl 15)),
 .o (.load1 76 (sl 75)),
 .o (.lenS 77 (sl 76)),
 .o (.move 78 (ci 0))])
 ((.block 6 (.loop (.seq (.reg [.o (.bin 79 .lss (sl 78) (sl 77))])
 ((.seq (.cond (sl 79) .skip
 (.exit 6))
 ((.seq (.block 7 (.seq (.reg [.o (.move 80 (sl 78)),
 .o (.move 17 (sl 80))])
 ((.reg [.o (.fld 81 1 (sl 15)),
 .o (.load1 82 (sl 81)),
 .o (.move 83 (sl 17)),
 .o (.build 84 [.v (.int .i64 0), .v (.int .i64 0)] [(0, 1), (1, 1)] [(0, (ci 0)), (1, (ci 1))]),
 .o (.idx 85 2 (sl 82) (sl 83)),
 .o (.store 2 (sl 85) (sl 84))]))))
 ((.reg [.o (.bin 86 .add (sl 78) (ci 1)),
 .o (.move 78 (sl 86))])))))))))))
 ((.seq (.reg [.o (.move 87 (sl 11)),
 .o (.call (some 88) (cf 62) [(sl 87)]),
 .o (.move 18 (sl 88))])
 ((.seq (.reg [.o (.move 19 (cb true)),
 .o (.move 20 (cb true))])
 ((.seq (.seq (.reg [.o (.move 89 (sl 1)),
 .o (.lenS 90 (sl 89)),
 .o (.move 91 (ci 0))])
 ((.block 8 (.loop (.seq (.reg [.o (.bin 92 .lss (sl 91) (sl 90))])
 ((.seq (.cond (sl 92) .skip
 (.exit 8))
 ((.seq (.block 9 (.seq (.reg [.o (.move 93 (sl 91)),
 .o (.move 21 (sl 93))])
 ((.seq (.weak (.draw [] [(kR, .o (.fld 95 0 (sl 15))),
 (kR, .o (.load1 96 (sl 95))),
 (kR, .o (.move 97 (sl 1))),
 (kR, .o (.move 98 (sl 21))),
 (kR, .o (.idx 99 1 (sl 97) (sl 98))),
 (kR, .o (.load1 100 (sl 99))),
 (kR, .o (.move 101 (sl 18))),
 (kR, .o (.move 102 (sl 21))),
 (kR, .o (.idx 103 1 (sl 101) (sl 102))),
 (kR, .o (.load1 104 (sl 103))),
 (kR, .o (.call (some 105) (cf 101) [(sl 104)])),
 (kR, .o (.move 106 (sl 12))),
 (kR, .o (.call (some 107) (cf 102) [(sl 105), (sl 106)])),
 (kR, .o (.move 94 (sl 107))),
 (kR, .o (.extract 108 (sl 94) 0)),
 (kE, .o (.extract 109 (sl 94) 1)),
 (kR, .o (.idx 110 2 (sl 96) (sl 100))),
 (kH, .o (.store 2 (sl 110) (sl 108))),
 (kR, .o (.move 20 (sl 109)))]))
 ((.seq (.reg [.o (.move 111 (sl 19)),
 .o (.move 112 (sl 111)),
 .g 112 true (some 113) (.move 113 (sl 20)),
 .o (.pick 114 (sl 112) (sl 113) (cb false)),
 .o (.move 19 (sl 114))])
 ((.seq (.weak (.draw [] [(kR, .o (.fld 116 1 (sl 15))),
 (kR, .o (.load1 117 (sl 116))),
 (kR, .o (.move 118 (sl 2))),
 (kR, .o (.move 119 (sl 21))),
 (kR, .o (.idx 120 1 (sl 118) (sl 119))),
 (kR, .o (.load1 121 (sl 120))),
 (kR, .o (.move 122 (sl 11))),
 (kR, .o (.move 123 (sl 21))),
 (kR, .o (.idx 124 1 (sl 122) (sl 123))),
 (kR, .o (.load1 125 (sl 124))),
 (kR, .o (.call (some 126) (cf 101) [(sl 125)])),
 (kR, .o (.move 127 (sl 12))),
 (kR, .o (.call (some 128) (cf 102) [(sl 126), (sl 127)])),
 (kR, .o (.move 115 (sl 128))),
 (kR, .o (.extract 129 (sl 115) 0)),
 (kE, .o (.extract 130 (sl 115) 1)),
 (kR, .o (.idx 131 2 (sl 117) (sl 121))),
 (kH, .o (.store 2 (sl 131) (sl 129))),
 (kR, .o (.move 20 (sl 130)))]))
 ((.reg [.o (.move 132 (sl 19)),
 .o (.move 133 (sl 132)),
 .g 133 true (some 134) (.move 134 (sl 20)),
 .o (.pick 135 (sl 133) (sl 134) (cb false)),
 .o (.move 19 (sl 135))]))))))))))
 ((.reg [.o (.bin 136 .add (sl 91) (ci 1)),
 .o (.move 91 (sl 136))])))))))))))
 ((.seq (.reg [.o (.move 138 (sl 8)),
 .o (.call (some 139) (cf 103) [(sl 138)]),
 .o (.move 140 (sl 12)),
 .o (.call (some 141) (cf 102) [(sl 139), (sl 140)]),
 .o (.move 137 (sl 141)),
 .o (.extract 142 (sl 137) 0),
 .o (.extract 143 (sl 137) 1),
 .o (.fld 144 2 (sl 15)),
 .o (.store 2 (sl 144) (sl 142)),
 .o (.move 20 (sl 143))])
 ((.seq (.weak (.draw [] [(kR, .o (.loadN 145 4 (sl 15))),
 (kR, .o (.move 146 (sl 19))),
 (kR, .o (.move 147 (sl 146))),
 (kR, .g 147 true (some 148) (.move 148 (sl 20))),
 (kR, .o (.pick 149 (sl 147) (sl 148) (cb false))),
 (kR, .o (.move 150 (sl 149))),
 (kR, .g 150 true (some 151) (.move 151 (sl 0))),
 (kR, .g 150 true (some 152) (.loadN 152 4 (sl 15))),
 (kR, .g 150 true (some 153) (.call (some 153) (cf 74) [(sl 151), (sl 152)])),
 (kE, .o (.pick 154 (sl 150) (sl 153) (cb false))),
 (kH, .o (.store 4 (sl 6) (sl 145))),
 (kR, .o (.move 7 (sl 154)))]))
 (.ret))))))))))))))))))))))))))))))
theorem fun_impl_kernelSolution_h {rin : List T} {args : List A} {Q : List T → T → Prop} (ha : args.length ≤ 155) (h : cW Try.prog 155 c_impl_kernelSolution_h (retP Try.prog [.cell 6 41, .tmp 7] rin.length Q) (St.of (enum 0 args) (enum 1000000000 rin))) :
    Fun Try.prog 78 rin args Q :=
  Fun.of (H := ⟨[], [32, 34, 38]⟩) Try.func78 rfl rfl rfl (by kernel_rfl) ha (by decide) h

end Go.Ab

/- Contracts: what a kernel gives (the other side). -/
set_option linter.unusedSimpArgs false
set_option linter.unusedVariables false
namespace Go.Ab
open Go.Proofs
section
attribute [-go_sem] load1C load1V fldC lenC idxC loadNV
theorem sub_snoc2 (m : List (List Int)) {r : List Int} {c : List Int} {i : Nat} {x : Int} (h : r[i]? = some x) : kB m (r.take (i + 1)) c = kB m (r.take i) c ++ [pickL (m.getD x.toNat []) c] := sub_snoc m h
def fillZ (n i : Nat) : List (Int × Int) := List.replicate i (0, 1) ++ List.replicate (n - i) (0, 0)
theorem fillZ_length {n i : Nat} (h : i ≤ n) : (fillZ n i).length = n := by simp [fillZ]; omega
theorem fillZ_set {n i : Nat} (h : i < n) : (fillZ n i).set i (0, 1) = fillZ n (i + 1) := by
  obtain ⟨d, hd⟩ : ∃ d, n - i = d + 1 := ⟨n - i - 1, by omega⟩
  rw [fillZ, hd, List.set_append_right _ _ (by simp), List.length_replicate, Nat.sub_self, List.replicate_succ, List.set_cons_zero, fillZ, show n - (i + 1) = d by omega, List.replicate_succ', List.append_assoc]; rfl
theorem fillZ_all (n : Nat) : fillZ n n = List.replicate n (0, 1) := by simp [fillZ]
theorem fillZ_none (n : Nat) : fillZ n 0 = List.replicate n (0, 0) := by simp [fillZ]
theorem made_fillZ (n : Nat) : made [T.v (.int .i64 0), T.v (.int .i64 0)] n = ratC (fillZ n 0) := by rw [ratC_replicate, fillZ_none]
def okI (p q : List Int) (d : Int) : Nat → Bool
  | 0 => true
  | i + 1 => okI p q d i && ((sgR (p.getD i 0) d).2 == 0) && ((sgR (q.getD i 0) d).2 == 0)
def kOK (m : List (List Int)) (r c : List Int) : Bool := okI (rsum (tr (kA m r c) r.length)) (rsum (kA m r c)) (kD m r c) r.length && ((sgR (detN r.length (kB m r c)) (kD m r c)).2 == 0)
def kerSolT (m : List (List Int)) (r c : List Int) : T := if kD m r c = 0 then .tup [zeroT, .b false] else .tup [solO (kernX m r c), .b (kOK m r c && isSolB m (kernX m r c))]
set_option maxHeartbeats 4000000 in
set_option maxRecDepth 20000 in
theorem impl_kernelSolution_ok (m : List (List Int)) (r c : List Int) (hm : isMat m = true) (h : kerIx m r c) : Fun Try.prog 78 [] [.t (rows m), .t (ints r), .t (ints c)] fun o res => o = [] ∧ res = kerSolT m r c := by
  obtain ⟨m1, m2, m3, m4, m5, m6⟩ := isMat_spec hm
  have hs := kB_sq hm h
  have hal := kA_length m r c
  have har := kA_rows hm h
  obtain ⟨k1, k2, k3, k4, k5⟩ := id h
  have hT : kerSolT m r c = if kD m r c = 0 then .tup [zeroT, .b false] else .tup [solO (kernX m r c), .b (kOK m r c && isSolB m (kernX m r c))] := rfl
  have hO : kOK m r c = (okI (rsum (tr (kA m r c) r.length)) (rsum (kA m r c)) (kD m r c) r.length && ((sgR (detN r.length (kB m r c)) (kD m r c)).2 == 0)) := rfl
  have hX : kernX m r c = ⟨mixK m.length r (rsum (tr (kA m r c) r.length)) (kD m r c), mixK (wid m) c (rsum (kA m r c)) (kD m r c), (sgR (detN r.length (kB m r c)) (kD m r c)).1⟩ := rfl
  have hD : kD m r c = (rsum (kA m r c)).sum := rfl
  generalize kerSolT m r c = gT at hT ⊢
  generalize kOK m r c = ok at hT hO
  refine fun_impl_kernelSolution_h (by simp) ?_
  simp -implicitDefEqProofs only [go_sem, evR, ints, rows, rat, rats, c_impl_kernelSolution_h]
  refine SemC.loopR (σ := Nat) (fun i => St.of [(0, .t (rows m)), (1, .t (ints r)), (2, .t (ints c)), (6, .own 6), (7, .t (.b false)), (8, .own 81), (22, .t (ints r)), (23, .t (.i r.length)), (24, .t (.i i))] [(6, .box [.v (.slice none 0 0), .v (.slice none 0 0), .v (.int .i64 0), .v (.int .i64 0)]), (81, rowsO (kB m (r.take i) c))]) (fun i => i ≤ r.length) (fun i => r.length - i) 0 (Weak.of _ _ [some 6, none] (by simp) (by simp) ?_ ?_) (by omega) fun i hi R hn hr he => ?_
  · simp -implicitDefEqProofs only [ints, rows, Nat.reduceBEq, wkR, Nat.reduceEqDiff, ↓reduceIte, wrR]
  · exact ⟨⟨_, rfl, .refl _⟩, rfl, ⟨⟨1, rfl⟩, trivial⟩⟩
  rcases Nat.lt_or_ge i r.length with h9 | h9
  · obtain ⟨x, hx⟩ : ∃ x, r[i]? = some x := ⟨_, List.getElem?_eq_getElem h9⟩
    have hxb := k4 x (List.mem_of_getElem? hx)
    obtain ⟨row, hrow⟩ : ∃ row, m[x.toNat]? = some row := ⟨_, List.getElem?_eq_getElem (by omega)⟩
    have hrowl : row.length = wid m := m5 row (List.mem_of_getElem? hrow)
    have hrd : m.getD x.toNat [] = row := by rw [List.getD_eq_getElem?_getD, hrow]; rfl
    have hbl : (kB m (r.take i) c).length = i := by rw [kB, partM_length, List.length_take]; omega
    simp -implicitDefEqProofs only [go_sem, evR, ints, rows, rat, rats, hx, hrow, decide_eq_true (show (i : Int) < (r.length : Int) by omega)]
    refine ⟨by omega, by omega, by omega, by omega, by omega, by omega, ?_⟩
    refine CallW.res (impl_chosen_ok row c (fun j hj => by have := k5 j hj; omega) (by omega)) [] rfl Try.call99 ?_ (.inl rfl) ?_
    · simp -implicitDefEqProofs only [agR, Nat.reduceLeDiff, Nat.reduceSub, vaR, go_sem, ints, rows, rat, rats, ratsO, rtR, intsO, rowsO]
    simp -implicitDefEqProofs only [clR, Nat.reduceLeDiff, go_sem, evR, rat, rowsO, intsO]
    refine ⟨by omega, hn _ (i + 1) (Weak.of _ _ [some 6, some 36] (by simp) (by simp) ?_ ?_) (by omega) (by omega)⟩
    · simp -implicitDefEqProofs only [ints, rows, Nat.reduceBEq, wkR, Nat.reduceEqDiff, ↓reduceIte, wrR, next64 h9 (by omega)]
    · refine ⟨⟨_, rfl, .refl _⟩, rfl, ⟨_, rfl, ?_⟩, rfl, trivial⟩
      rw [sub_snoc2 m hx, hrd, rowsO, List.map_append]; exact .refl _
  · simp -implicitDefEqProofs only [go_sem, evR, ints, rows, rat, rats, decide_eq_false (show ¬ (i : Int) < (r.length : Int) by omega)]
    refine he _ _ ?_
    simp -implicitDefEqProofs only [go_sem, evR, ints, rows, rat, rats]
    rw [show i = r.length by omega, List.take_length]
    have hadj := impl_adjugate_ok r.length k2 (kB m r c) hs
    rw [show adjM r.length (kB m r c) = kA m r c from rfl] at hadj
    refine CallW.res hadj [81] rfl Try.call100 ?_ (.inr (rowsO_noSh _)) ?_
    · simp -implicitDefEqProofs only [agR, Nat.reduceLeDiff, Nat.reduceSub, vaR, go_sem, ints, rows, rat, rats, ratsO, rtR, intsO, rowsO]
    simp -implicitDefEqProofs only [clR, Nat.reduceLeDiff, go_sem, evR, rat, rowsO]
    generalize kD m r c = dd at hD hT hX hO
    generalize kA m r c = a at *
    generalize kB m r c = b at *
    have hra := rsum_abs (a := a) fun y hy => ⟨by have := (har y hy).1; omega, (har y hy).2⟩
    have hrl : (rsum a).length = r.length := by rw [rsum, List.length_map, hal]
    have hrsn : ∀ {i : Nat} {y : List Int}, a[i]? = some y → (rsum a).take (i + 1) = (rsum a).take i ++ [y.sum] := fun {i y} hy => take_snoc (by rw [rsum, List.getElem?_map, hy]; rfl)
    rw [hal]
    refine SemC.loopR (σ := Nat) (fun i => St.of [(0, .t (rows m)), (1, .t (ints r)), (2, .t (ints c)), (6, .own 6), (7, .t (.b false)), (8, .t (rows b)), (11, .t (rows a)), (12, .t (.i ((rsum a).take i).sum)), (40, .t (rows a)), (41, .t (.i r.length)), (42, .t (.i i))] [(6, .box [.v (.slice none 0 0), .v (.slice none 0 0), .v (.int .i64 0), .v (.int .i64 0)])]) (fun i => i ≤ r.length) (fun i => r.length - i) 0 (Weak.trans (Weak.share 39 rfl) (Weak.trans (Weak.share 81 rfl) (Weak.of _ _ [some 6] (by simp) (by simp) ?_ ?_))) (by omega) fun i hi R2 hn2 hr2 he2 => ?_
    · have hsh : ∀ l : List (List Int), (T.arr 1 (List.map intsO l)).toSh = T.sh 1 (List.map ints l) := rowsO_toSh
      simp -implicitDefEqProofs only [ints, rows, Nat.reduceBEq, wkR, Nat.reduceEqDiff, ↓reduceIte, wrR, shareA, hsh, List.take_zero, List.sum_nil]
    · exact ⟨⟨_, rfl, .refl _⟩, rfl, trivial⟩
    rcases Nat.lt_or_ge i r.length with h8 | h8
    · obtain ⟨y, hy⟩ : ∃ y, a[i]? = some y := ⟨_, List.getElem?_eq_getElem (by omega)⟩
      have hym := har y (List.mem_of_getElem? hy)
      have hsum := sums_abs (by omega) hra i
      have hys : -15360000 ≤ y.sum ∧ y.sum ≤ 15360000 := hra _ (List.mem_map.2 ⟨y, List.mem_of_getElem? hy, rfl⟩)
      simp -implicitDefEqProofs only [go_sem, evR, ints, rows, rat, rats, hy, hal, decide_eq_true (show (i : Int) < (r.length : Int) by omega)]
      refine ⟨by omega, by omega, by omega, ?_⟩
      refine CallW.pure (impl_sumOf_ok y (small_of (by omega) hym.2)) [] rfl Try.call101 ?_ (by first | trivial | simp [T.noSh, T.noShL, rat]) rfl ?_
      · simp -implicitDefEqProofs only [agR, Nat.reduceLeDiff, Nat.reduceSub, vaR, go_sem, ints, rows, rat, rats, ratsO, rtR, intsO, rowsO]
      simp -implicitDefEqProofs only [go_sem, evR, ints, rows, rat, rats]
      refine hn2 _ (i + 1) (Weak.of _ _ [some 6] (by simp) (by simp) ?_ ?_) (by omega) (by omega)
      · rw [wrap64 (n := ((rsum a).take i).sum + y.sum) (by omega) (by omega), wrap64 (n := (i : Int) + 1) (by omega) (by omega)]
        have hsn : ((rsum a).take (i + 1)).sum = ((rsum a).take i).sum + y.sum := by rw [hrsn hy]; simp
        simp -implicitDefEqProofs only [ints, rows, Nat.reduceBEq, wkR, Nat.reduceEqDiff, ↓reduceIte, wrR, hsn, Int.natCast_add, Int.natCast_one]
      · exact ⟨⟨_, rfl, .refl _⟩, rfl, trivial⟩
    have hfin : (rsum a).take i = rsum a := by rw [show i = r.length by omega, ← hrl, List.take_length]
    have hdb := sums_abs (by omega) hra i
    rw [hfin, ← hD] at hdb
    simp -implicitDefEqProofs only [go_sem, evR, ints, rows, rat, rats, decide_eq_false (show ¬ (i : Int) < (r.length : Int) by omega)]
    refine he2 _ _ ?_
    obtain ⟨m0, hm0⟩ : ∃ m0, m[0]? = some m0 := ⟨_, List.getElem?_eq_getElem (by omega)⟩
    have hmw : wid m = m0.length := by rw [wid, List.headD_eq_head?_getD, List.head?_eq_getElem?, hm0]; rfl
    have hw4 : m0.length ≤ 4 := by rw [← hmw]; exact m4
    have hbr : bigL (rsum a) := fun x hx => by have := hra x hx; omega
    have hbc : bigL (rsum (tr a r.length)) := fun x hx => by
      obtain ⟨y, hy, rfl⟩ := List.mem_map.1 hx
      obtain ⟨k, hk, rfl⟩ := List.mem_map.1 hy
      obtain ⟨c1, c2⟩ := col_abs (by omega) har k
      have := sum_abs (b := 3840000) (by omega) c2
      omega
    simp -implicitDefEqProofs only [go_sem, evR, ints, rows, rat, rats, hfin, ← hD, hm0, made_fillZ, ratC_div, fillZ_length (Nat.zero_le _)]
    refine ⟨fun h0 => by rw [hT, if_pos (by simpa using h0)]; rfl, fun h0 => ?_⟩
    have hd0 : dd ≠ 0 := by simpa using h0
    rw [if_neg hd0] at hT
    refine ⟨by omega, by omega, by omega, by omega, by omega, by omega, ?_⟩
    refine SemC.loopR (σ := Nat) (fun i => St.of [(0, .t (rows m)), (1, .t (ints r)), (2, .t (ints c)), (6, .own 6), (7, .t (.b false)), (8, .t (rows b)), (11, .t (rows a)), (12, .t (.i dd)), (15, .own 15), (65, .t (.i m.length)), (66, .t (.i i))] [(6, .box [.v (.slice none 0 0), .v (.slice none 0 0), .v (.int .i64 0), .v (.int .i64 0)]), (15, .box [ratsO (fillZ m.length i), ratsO (fillZ m0.length 0), .v (.int .i64 0), .v (.int .i64 0)])]) (fun i => i ≤ m.length) (fun i => m.length - i) 0 (Weak.trans (Weak.close1 15 0 64 rfl rfl (by decide) rfl) (Weak.of _ _ [some 6, some 15] (by simp) (by simp) ?_ ?_)) (by omega) fun i hi R3 hn3 hr3 he3 => ?_
    · simp -implicitDefEqProofs only [ints, rows, Nat.reduceBEq, wkR, Nat.reduceEqDiff, ↓reduceIte, wrR]
    · exact ⟨⟨_, rfl, .refl _⟩, rfl, ⟨_, rfl, .refl _⟩, rfl, trivial⟩
    rcases Nat.lt_or_ge i m.length with h7 | h7
    · have hfl := fillZ_length (n := m.length) (i := i) (by omega)
      simp -implicitDefEqProofs only [go_sem, evR, ints, rows, rat, rats, decide_eq_true (show (i : Int) < (m.length : Int) by omega), ratsO]
      refine ⟨by omega, by rw [ratC_length]; omega, by rw [ratC_length]; omega, hn3 _ (i + 1) (Weak.trans (Weak.close1 15 0 70 rfl rfl (by decide) rfl) (Weak.of _ _ [some 6, some 15] (by simp) (by simp) ?_ ?_)) (by omega) (by omega)⟩
      · simp -implicitDefEqProofs only [ints, rows, Nat.reduceBEq, wkR, Nat.reduceEqDiff, ↓reduceIte, wrR, next64 h7 (by omega)]
      · have hset := ratC_set (l := fillZ m.length i) (i := i) (0, 1) (by omega)
        rw [fillZ_set h7] at hset
        refine ⟨⟨_, rfl, .refl _⟩, rfl, ⟨_, rfl, ?_⟩, rfl, trivial⟩
        rw [ratsO, ← hset]; exact .refl _
    · have h01 := fillZ_length (n := m0.length) (i := 0) (by omega)
      simp -implicitDefEqProofs only [go_sem, evR, ints, rows, rat, rats, decide_eq_false (show ¬ (i : Int) < (m.length : Int) by omega)]
      refine he3 _ _ ?_
      simp -implicitDefEqProofs only [go_sem, evR, ints, rows, rat, rats, ratsO, ratC_div, h01]
      refine SemC.loopR (σ := Nat) (fun i => St.of [(0, .t (rows m)), (1, .t (ints r)), (2, .t (ints c)), (6, .own 6), (7, .t (.b false)), (8, .t (rows b)), (11, .t (rows a)), (12, .t (.i dd)), (15, .own 15), (77, .t (.i m0.length)), (78, .t (.i i))] [(6, .box [.v (.slice none 0 0), .v (.slice none 0 0), .v (.int .i64 0), .v (.int .i64 0)]), (15, .box [ratsO (List.replicate m.length (0, 1)), ratsO (fillZ m0.length i), .v (.int .i64 0), .v (.int .i64 0)])]) (fun i => i ≤ m0.length) (fun i => m0.length - i) 0 (Weak.trans (Weak.close1 15 1 76 rfl rfl (by decide) rfl) (Weak.of _ _ [some 6, some 15] (by simp) (by simp) ?_ ?_)) (by omega) fun j hj R4 hn4 hr4 he4 => ?_
      · simp -implicitDefEqProofs only [ints, rows, Nat.reduceBEq, wkR, Nat.reduceEqDiff, ↓reduceIte, wrR]
      · exact ⟨⟨_, rfl, .refl _⟩, rfl, ⟨_, rfl, by rw [show i = m.length by omega, fillZ_all]; exact .refl _⟩, rfl, trivial⟩
      rcases Nat.lt_or_ge j m0.length with h6 | h6
      · have hfl := fillZ_length (n := m0.length) (i := j) (by omega)
        simp -implicitDefEqProofs only [go_sem, evR, ints, rows, rat, rats, decide_eq_true (show (j : Int) < (m0.length : Int) by omega), ratsO]
        refine ⟨by omega, by rw [ratC_length]; omega, by rw [ratC_length]; omega, hn4 _ (j + 1) (Weak.trans (Weak.close1 15 1 82 rfl rfl (by decide) rfl) (Weak.of _ _ [some 6, some 15] (by simp) (by simp) ?_ ?_)) (by omega) (by omega)⟩
        · simp -implicitDefEqProofs only [ints, rows, Nat.reduceBEq, wkR, Nat.reduceEqDiff, ↓reduceIte, wrR, next64 h6 (by omega)]
        · have hset := ratC_set (l := fillZ m0.length j) (i := j) (0, 1) (by omega)
          rw [fillZ_set h6] at hset
          refine ⟨⟨_, rfl, .refl _⟩, rfl, ⟨_, rfl, ?_⟩, rfl, trivial⟩
          rw [ratsO, ratsO, ← hset]; exact .refl _
      simp -implicitDefEqProofs only [go_sem, evR, ints, rows, rat, rats, decide_eq_false (show ¬ (j : Int) < (m0.length : Int) by omega)]
      refine he4 _ _ ?_
      simp -implicitDefEqProofs only [go_sem, evR, ints, rows, rat, rats]
      rw [show j = m0.length by omega, fillZ_all]
      refine CallW.res (impl_turned_ok a r.length (by intro he; rw [he] at hal; simp at hal; omega) (fun y hy => (har y hy).1) (by omega) (by omega)) [] rfl Try.call62 ?_ (.inl rfl) ?_
      · simp -implicitDefEqProofs only [agR, Nat.reduceLeDiff, Nat.reduceSub, vaR, go_sem, ints, rows, rat, rats, ratsO, rtR, intsO, rowsO]
      simp -implicitDefEqProofs only [clR, Nat.reduceLeDiff, go_sem, evR, rat]
      have hpl : (rsum (tr a r.length)).length = r.length := by simp [rsum, tr]
      have htl : (tr a r.length).length = r.length := by simp [tr]
      refine SemC.loopR (σ := Nat) (fun i => St.of [(0, .t (rows m)), (1, .t (ints r)), (2, .t (ints c)), (6, .own 6), (7, .t (.b false)), (8, .t (rows b)), (11, .t (rows a)), (12, .t (.i dd)), (15, .own 15), (18, .t (rows (tr a r.length))), (19, .t (.b (okI (rsum (tr a r.length)) (rsum a) dd i))), (89, .t (ints r)), (90, .t (.i r.length)), (91, .t (.i i))] [(6, .box [.v (.slice none 0 0), .v (.slice none 0 0), .v (.int .i64 0), .v (.int .i64 0)]), (15, .box [ratsO (mixI m.length r (rsum (tr a r.length)) dd i), ratsO (mixI m0.length c (rsum a) dd i), .v (.int .i64 0), .v (.int .i64 0)])]) (fun i => i ≤ r.length) (fun i => r.length - i) 0 (Weak.trans (Weak.share 88 rfl) (Weak.of _ _ [some 6, some 15] (by simp) (by simp) ?_ ?_)) (by omega) fun e he' R5 hn5 hr5 he5 => ?_
      · simp -implicitDefEqProofs only [ints, rows, Nat.reduceBEq, wkR, Nat.reduceEqDiff, ↓reduceIte, wrR, shareA, rowsO_toSh, okI]
      · exact ⟨⟨_, rfl, .refl _⟩, rfl, ⟨_, rfl, .refl _⟩, rfl, trivial⟩
      rcases Nat.lt_or_ge e r.length with h5 | h5
      · obtain ⟨x, hx⟩ : ∃ x, r[e]? = some x := ⟨_, List.getElem?_eq_getElem h5⟩
        obtain ⟨z, hz⟩ : ∃ z, c[e]? = some z := ⟨_, List.getElem?_eq_getElem (by omega)⟩
        obtain ⟨y, hy⟩ : ∃ y, a[e]? = some y := ⟨_, List.getElem?_eq_getElem (by omega)⟩
        obtain ⟨u, hu⟩ : ∃ u, (tr a r.length)[e]? = some u := ⟨_, List.getElem?_eq_getElem (by omega)⟩
        have hxb := k4 x (List.mem_of_getElem? hx)
        have hzb := k5 z (List.mem_of_getElem? hz)
        rw [hmw] at hzb
        have hym := har y (List.mem_of_getElem? hy)
        have hys : -15360000 ≤ y.sum ∧ y.sum ≤ 15360000 := hra _ (List.mem_map.2 ⟨y, List.mem_of_getElem? hy, rfl⟩)
        have huc : u = colOf a e := by
          have : (tr a r.length)[e]? = some (colOf a e) := by simp [tr, h5]
          rw [hu, Option.some.injEq] at this; exact this
        have hum := col_abs (by omega) har e
        rw [← huc] at hum
        have hus := sum_abs (b := 3840000) (by omega) hum.2
        have hpd : (rsum (tr a r.length)).getD e 0 = u.sum := by rw [List.getD_eq_getElem?_getD, rsum, List.getElem?_map, hu]; rfl
        have hqd : (rsum a).getD e 0 = y.sum := by rw [List.getD_eq_getElem?_getD, rsum, List.getElem?_map, hy]; rfl
        have hxd : r.getD e 0 = x := by rw [List.getD_eq_getElem?_getD, hx]; rfl
        have hzd : c.getD e 0 = z := by rw [List.getD_eq_getElem?_getD, hz]; rfl
        have hl1 := mixI_length m.length r (rsum (tr a r.length)) dd e
        have hl2 := mixI_length m0.length c (rsum a) dd e
        simp -implicitDefEqProofs only [go_sem, evR, ints, rows, rat, rats, decide_eq_true (show (e : Int) < (r.length : Int) by omega)]
        refine ⟨_, Weak.open 15 0 500 rfl rfl rfl (by decide) rfl, ?_⟩
        simp -implicitDefEqProofs only [go_sem, evR, ints, rows, rat, rats, hx, hu, hy, hz, ratsO, (show List.lookup 0 [(0, 500)] = some 500 from rfl)]
        refine ⟨by omega, by omega, by omega, by omega, by omega, by omega, ?_⟩
        refine CallV.pure (impl_sumOf_ok u (small_of (by omega) hum.2)) [] rfl Try.call101 (fun e R' hR => ?_) (by first | trivial | simp [T.noSh, T.noShL, rat]) (fun _ => rfl) ?_
        · simp -implicitDefEqProofs only [agR, Nat.reduceLeDiff, Nat.reduceSub, vaR, go_sem, ints, rows, rat, rats, ratsO, rtR, intsO, rowsO]
        simp -implicitDefEqProofs only [go_sem, evR, ints, rows, rat, rats]
        refine CallV.pure (impl_signedRatio_ok u.sum dd (by omega) (by omega) hd0 (by omega) (by omega)) [] rfl Try.call102 (fun e R' hR => ?_) (by first | trivial | simp [T.noSh, T.noShL, rat]) (fun _ => rfl) ?_
        · simp -implicitDefEqProofs only [agR, Nat.reduceLeDiff, Nat.reduceSub, vaR, go_sem, ints, rows, rat, rats, ratsO, rtR, intsO, rowsO]
        simp -implicitDefEqProofs only [go_sem, evR, ints, rows, rat, rats]
        refine ⟨by omega, by rw [ratC_length]; omega, by rw [ratC_length]; omega, ?_⟩
        have hset1 := ratC_set (l := mixI m.length r (rsum (tr a r.length)) dd e) (i := x.toNat) (sgR u.sum dd).1 (by omega)
        rw [show (mixI m.length r (rsum (tr a r.length)) dd e).set x.toNat (sgR u.sum dd).1 = mixI m.length r (rsum (tr a r.length)) dd (e + 1) by rw [mixI, hxd, hpd]] at hset1
        have hset2 := ratC_set (l := mixI m0.length c (rsum a) dd e) (i := z.toNat) (sgR y.sum dd).1 (by omega)
        rw [show (mixI m0.length c (rsum a) dd e).set z.toNat (sgR y.sum dd).1 = mixI m0.length c (rsum a) dd (e + 1) by rw [mixI, hzd, hqd]] at hset2
        refine ⟨fun h => ?_, fun h => ?_⟩
        all_goals
          refine ⟨_, Weak.trans (Weak.close1 15 0 500 rfl rfl (by decide) rfl) (Weak.trans (Weak.of [(0, .t (rows m)), (1, .t (ints r)), (2, .t (ints c)), (6, .own 6), (7, .t (.b false)), (8, .t (rows b)), (11, .t (rows a)), (12, .t (.i dd)), (15, .own 15), (18, .t (rows (tr a r.length))), (19, .t (.b (okI (rsum (tr a r.length)) (rsum a) dd e && ((sgR u.sum dd).2 == 0)))), (21, .t (.i e)), (89, .t (ints r)), (90, .t (.i r.length)), (91, .t (.i e))] [(6, .box [.v (.slice none 0 0), .v (.slice none 0 0), .v (.int .i64 0), .v (.int .i64 0)]), (15, .box [ratsO (mixI m.length r (rsum (tr a r.length)) dd (e + 1)), ratsO (mixI m0.length c (rsum a) dd e), .v (.int .i64 0), .v (.int .i64 0)])] [some 6, some 15] (by simp) (by simp) ?_ ?_) (Weak.open 15 1 501 rfl rfl rfl (by decide) rfl)), ?_⟩
          · simp -implicitDefEqProofs only [ints, rows, Nat.reduceBEq, wkR, Nat.reduceEqDiff, ↓reduceIte, wrR, h, Bool.true_and, Bool.false_and]
          · refine ⟨⟨_, rfl, .refl _⟩, rfl, ⟨_, rfl, ?_⟩, rfl, trivial⟩
            rw [ratsO, ratsO, ← hset1]; exact .refl _
          simp -implicitDefEqProofs only [go_sem, evR, ints, rows, rat, rats, hx, hu, hy, hz, ratsO, (show List.lookup 1 [(1, 501)] = some 501 from rfl)]
          refine ⟨by omega, by omega, by omega, by omega, by omega, by omega, ?_⟩
          refine CallV.pure (impl_sumOf_ok y (small_of (by omega) hym.2)) [] rfl Try.call101 (fun e R' hR => ?_) (by first | trivial | simp [T.noSh, T.noShL, rat]) (fun _ => rfl) ?_
          · simp -implicitDefEqProofs only [agR, Nat.reduceLeDiff, Nat.reduceSub, vaR, go_sem, ints, rows, rat, rats, ratsO, rtR, intsO, rowsO]
          simp -implicitDefEqProofs only [go_sem, evR, ints, rows, rat, rats]
          refine CallV.pure (impl_signedRatio_ok y.sum dd (by omega) (by omega) hd0 (by omega) (by omega)) [] rfl Try.call102 (fun e R' hR => ?_) (by first | trivial | simp [T.noSh, T.noShL, rat]) (fun _ => rfl) ?_
          · simp -implicitDefEqProofs only [agR, Nat.reduceLeDiff, Nat.reduceSub, vaR, go_sem, ints, rows, rat, rats, ratsO, rtR, intsO, rowsO]
          simp -implicitDefEqProofs only [go_sem, evR, ints, rows, rat, rats]
          refine ⟨by omega, by rw [ratC_length]; omega, by rw [ratC_length]; omega, ?_⟩
          refine ⟨fun h2 => ?_, fun h2 => ?_⟩
          all_goals
            refine hn5 _ (e + 1) (Weak.trans (Weak.close1 15 1 501 rfl rfl (by decide) rfl) (Weak.of _ _ [some 6, some 15] (by simp) (by simp) ?_ ?_)) (by omega) (by omega)
            · have hok : okI (rsum (tr a r.length)) (rsum a) dd (e + 1) = (okI (rsum (tr a r.length)) (rsum a) dd e && ((sgR u.sum dd).2 == 0) && ((sgR y.sum dd).2 == 0)) := by rw [okI, hpd, hqd]
              simp -implicitDefEqProofs only [ints, rows, Nat.reduceBEq, wkR, Nat.reduceEqDiff, ↓reduceIte, wrR, next64 h5 (by omega), hok, h2, Bool.true_and, Bool.false_and]
            · refine ⟨⟨_, rfl, .refl _⟩, rfl, ⟨_, rfl, ?_⟩, rfl, trivial⟩
              rw [ratsO, ratsO, ← hset2]; exact .refl _
      simp -implicitDefEqProofs only [go_sem, evR, ints, rows, rat, rats, decide_eq_false (show ¬ (e : Int) < (r.length : Int) by omega)]
      refine he5 _ _ ?_
      simp -implicitDefEqProofs only [go_sem, evR, ints, rows, rat, rats]
      have hel : e = r.length := by omega
      have hdet := detN_abs hs
      have hdet2 := detB_le k2
      refine CallW.pure (impl_determinant_ok r.length k2 b hs) [] rfl Try.call103 ?_ (by first | trivial | simp [T.noSh, T.noShL, rat]) rfl ?_
      · simp -implicitDefEqProofs only [agR, Nat.reduceLeDiff, Nat.reduceSub, vaR, go_sem, ints, rows, rat, rats, ratsO, rtR, intsO, rowsO]
      simp -implicitDefEqProofs only [go_sem, evR, ints, rows, rat, rats]
      refine CallW.pure (impl_signedRatio_ok (detN r.length b) dd (by omega) (by omega) hd0 (by omega) (by omega)) [] rfl Try.call102 ?_ (by first | trivial | simp [T.noSh, T.noShL, rat]) rfl ?_
      · simp -implicitDefEqProofs only [agR, Nat.reduceLeDiff, Nat.reduceSub, vaR, go_sem, ints, rows, rat, rats, ratsO, rtR, intsO, rowsO]
      simp -implicitDefEqProofs only [go_sem, evR, ints, rows, rat, rats]
      subst hel
      have hX' : kernX m r c = ⟨mixI m.length r (rsum (tr a r.length)) dd r.length, mixI m0.length c (rsum a) dd r.length, (sgR (detN r.length b) dd).1⟩ := by rw [hX, hmw]; simp only [mixK, k3]
      have hXl : (kernX m r c).r.length = m.length ∧ (kernX m r c).c.length = m0.length := by rw [hX']; exact ⟨mixI_length _ _ _ _ _, mixI_length _ _ _ _ _⟩
      rw [show mixI m.length r (rsum (tr a r.length)) dd r.length = (kernX m r c).r by rw [hX'], show mixI m0.length c (rsum a) dd r.length = (kernX m r c).c by rw [hX'], show (sgR (detN r.length b) dd).1 = (kernX m r c).v by rw [hX']]
      clear hX hX'
      generalize kernX m r c = X at *
      generalize okI (rsum (tr a r.length)) (rsum a) dd r.length = o1 at *
      generalize ((sgR (detN r.length b) dd).2 == 0) = o2 at *
      refine ⟨_, Weak.trans (Weak.of [(0, .t (rows m)), (6, .own 6), (15, .own 15), (19, .t (.b o1)), (20, .t (.b o2))] [(6, .box [.v (.slice none 0 0), .v (.slice none 0 0), .v (.int .i64 0), .v (.int .i64 0)]), (15, .box [ratsO X.r, ratsO X.c, .i X.v.1, .i X.v.2])] [some 6, some 15] (by simp) (by simp) ?_ ?_) (Weak.trans (Weak.open 15 0 500 rfl rfl rfl (by decide) rfl) (Weak.open 15 1 501 rfl rfl rfl (by decide) rfl)), ?_⟩
      · simp -implicitDefEqProofs only [ints, rows, Nat.reduceBEq, wkR, Nat.reduceEqDiff, ↓reduceIte, wrR]
      · exact ⟨⟨_, rfl, .refl _⟩, rfl, ⟨_, rfl, .refl _⟩, rfl, trivial⟩
      have his := impl_isSolution_ok m hm X (by omega) (by omega)
      rw [solT] at his
      rw [hO] at hT
      have hlk : List.lookup 0 [(1, 501), (0, 500)] = some 500 ∧ List.lookup 1 [(1, 501), (0, 500)] = some 501 ∧ List.lookup 2 [(1, 501), (0, 500)] = none ∧ List.lookup 3 [(1, 501), (0, 500)] = none := ⟨rfl, rfl, rfl, rfl⟩
      obtain ⟨lk1, lk2, lk3, lk4⟩ := hlk
      cases o1
      · simp -implicitDefEqProofs only [go_sem, evR, ints, rows, rat, rats, lk1, lk2, lk3, lk4]
        rw [hT]; rfl
      cases o2
      · simp -implicitDefEqProofs only [go_sem, evR, ints, rows, rat, rats, lk1, lk2, lk3, lk4]
        rw [hT]; rfl
      simp -implicitDefEqProofs only [go_sem, evR, ints, rows, rat, rats, lk1, lk2, lk3, lk4]
      refine CallV.pure his [500, 501] rfl Try.call74 (fun e R' hR => ?_) (by first | trivial | simp [T.noSh, T.noShL, rat]) (fun _ => rfl) ?_
      · have hq500 := (hR 500).resolve_left (by simp -implicitDefEqProofs only [go_sem, evR, ints, rows, rat, rats, not_false_eq_true]); have hq501 := (hR 501).resolve_left (by simp -implicitDefEqProofs only [go_sem, evR, ints, rows, rat, rats, not_false_eq_true])
        simp -implicitDefEqProofs only [go_sem, evR, ints, rows, rat, rats] at hq500 hq501
        simp -implicitDefEqProofs only [agR, Nat.reduceLeDiff, Nat.reduceSub, vaR, go_sem, ints, rows, rat, rats, ratsO, rtR, intsO, rowsO, hq500, hq501]
      simp -implicitDefEqProofs only [go_sem, evR, ints, rows, rat, rats, lk1, lk2, lk3, lk4]
      rw [hT]; rfl
end
end Go.Ab

/- A kernel's solution: all ratios fit (no program in sight). -/
set_option linter.unusedSimpArgs false
set_option linter.unusedVariables false
namespace Go.Ab
open Go.Proofs
theorem comb_nodup : ∀ (d k : Nat) (lo : Int), ∀ c ∈ comb d k lo, c.Nodup
  | 0, 0, lo, c, h => by simp [comb] at h; rw [h]; exact List.nodup_nil
  | d + 1, 0, lo, c, h => by simp [comb] at h; rw [h]; exact List.nodup_nil
  | 0, k + 1, lo, c, h => by simp [comb] at h
  | d + 1, k + 1, lo, c, h => by
    rw [comb, List.mem_append] at h
    rcases h with h | h
    · obtain ⟨t, ht, rfl⟩ := List.mem_map.1 h
      exact List.nodup_cons.2 ⟨fun hx => by have := comb_bound _ _ _ t ht lo hx; omega, comb_nodup d k (lo + 1) t ht⟩
    · exact comb_nodup d (k + 1) (lo + 1) c h
theorem sgR_bad {n d : Int} (h : (sgR n d).2 ≠ 0) : (sgR n d).1 = (0, 0) := by
  unfold sgR at h ⊢
  split at h <;> rename_i hd <;> simp only [hd, if_true, if_false] <;> unfold redR at h ⊢ <;> split at h <;> rename_i h2 <;> simp_all
theorem mixI_keep {n : Nat} {at' parts : List Int} {d : Int} : ∀ (j i : Nat), i ≤ j → j ≤ at'.length → at'.Nodup → (∀ x ∈ at', 0 ≤ x) → (mixI n at' parts d j)[(at'.getD i 0).toNat]? = (mixI n at' parts d (i + 1))[(at'.getD i 0).toNat]? ∨ j = i
  | 0, i, h, _, _, _ => .inr (by omega)
  | j + 1, i, h, hj, hn, h0 => by
    rcases Nat.lt_or_ge i (j + 1) with h1 | h1
    · left
      rcases Nat.lt_or_ge i j with h2 | h2
      · rcases mixI_keep (n := n) (parts := parts) (d := d) j i (by omega) (by omega) hn h0 with h3 | h3
        · rw [← h3]
          have hne : (at'.getD j 0).toNat ≠ (at'.getD i 0).toNat := by
            have a1 : at'[j]? = some (at'.getD j 0) := by rw [List.getD_eq_getElem?_getD, List.getElem?_eq_getElem (by omega)]; rfl
            have a2 : at'[i]? = some (at'.getD i 0) := by rw [List.getD_eq_getElem?_getD, List.getElem?_eq_getElem (by omega)]; rfl
            have b1 := h0 _ (List.mem_of_getElem? a1)
            have b2 := h0 _ (List.mem_of_getElem? a2)
            intro he
            have he2 : at'.getD j 0 = at'.getD i 0 := by omega
            rw [he2, ← a2] at a1
            have := (List.getElem?_inj (by omega) hn).1 a1
            omega
          rw [mixI, List.getElem?_set_ne hne]
        · omega
      · rw [show i = j by omega]
    · exact .inr (by omega)
theorem mix_rat {p : List (Int × Int)} {n : Nat} (h : isMixB p n = true) {i : Nat} {x : Int × Int} (hx : p[i]? = some x) : isRat x = true := (mix_spec h).2.1 x (List.mem_of_getElem? hx)
theorem mixK_ok {n : Nat} {at' parts : List Int} {d : Int} (hn : at'.Nodup) (h0 : ∀ x ∈ at', 0 ≤ x ∧ x < n) (h : isMixB (mixK n at' parts d) n = true) {i : Nat} (hi : i < at'.length) : (sgR (parts.getD i 0) d).2 = 0 := by
  apply Decidable.byContradiction
  intro hc
  have a2 : at'[i]? = some (at'.getD i 0) := by rw [List.getD_eq_getElem?_getD, List.getElem?_eq_getElem hi]; rfl
  have b2 := h0 _ (List.mem_of_getElem? a2)
  have hs : (mixI n at' parts d (i + 1))[(at'.getD i 0).toNat]? = some (0, 0) := by
    rw [mixI, sgR_bad hc, List.getElem?_set_self (by rw [mixI_length]; omega)]
  rcases mixI_keep (n := n) (parts := parts) (d := d) at'.length i (by omega) (Nat.le_refl _) hn (fun x hx => (h0 x hx).1) with h1 | h1
  · rw [hs] at h1
    have := mix_rat h h1
    exact absurd this (by decide)
  · omega
theorem okI_of {p q : List Int} {d : Int} : ∀ (k : Nat), (∀ i < k, (sgR (p.getD i 0) d).2 = 0 ∧ (sgR (q.getD i 0) d).2 = 0) → okI p q d k = true
  | 0, _ => rfl
  | k + 1, h => by
    have h1 := h k (by omega)
    rw [okI, okI_of k (fun i hi => h i (by omega)), h1.1, h1.2]; rfl
theorem kOK_of {m : List (List Int)} {r c : List Int} (hix : kerIx m r c) (hr : r.Nodup) (hc : c.Nodup) (h : isSolB m (kernX m r c) = true) : kOK m r c = true := by
  obtain ⟨k1, k2, k3, k4, k5⟩ := hix
  unfold isSolB at h
  simp only [Bool.and_eq_true] at h
  have hr1 : isMixB (mixK m.length r (rsum (tr (kA m r c) r.length)) (kD m r c)) m.length = true := h.1.1.1.1.1.1
  have hc1 : isMixB (mixK (wid m) c (rsum (kA m r c)) (kD m r c)) (wid m) = true := h.1.1.1.1.1.2
  have hv : isRat (sgR (detN r.length (kB m r c)) (kD m r c)).1 = true := h.1.1.1.1.2
  have h1 : okI (rsum (tr (kA m r c) r.length)) (rsum (kA m r c)) (kD m r c) r.length = true := okI_of _ fun i hi => ⟨mixK_ok hr k4 hr1 hi, mixK_ok hc k5 hc1 (by omega)⟩
  have h2 : (sgR (detN r.length (kB m r c)) (kD m r c)).2 = 0 := by
    apply Decidable.byContradiction
    intro h2
    rw [sgR_bad h2] at hv
    exact absurd hv (by decide)
  rw [kOK, h1, h2]; rfl
end Go.Ab

/- Contracts: the first kernel (the other side). -/
set_option linter.unusedSimpArgs false
set_option linter.unusedVariables false
namespace Go.Ab
open Go.Proofs
section
attribute [-go_sem] load1C load1V fldC lenC idxC loadNV
def firstO (m : List (List Int)) : T := match firstF m with
  | some (r, c) => .tup [solO (kernX m r c), intsO r, intsO c]
  | none => .tup [zeroT, .v (.slice none 0 0), .v (.slice none 0 0)]
def zbox : T := .box [.v (.slice none 0 0), .v (.slice none 0 0), .v (.int .i64 0), .v (.int .i64 0)]
def nbox : T := .box [.v (.slice none 0 0)]
theorem rnd3_normal {n : Nat} {Sm Sn S' : St} {NI : Prop} {srcs : List Nat} {Q : Exit → St → Prop} {a b c : T} (h1 : S'.roots 1000000000 = .live a []) (h2 : S'.roots 1000000001 = .live b []) (h3 : S'.roots 1000000002 = .live c []) (hns : T.noShL [a, b, c]) (hNI : NI) (hw : Weak n (setS Sm srcs [a, b, c]) Sn) : rndQ n Sm Sn NI srcs 3 Q .normal S' := by
  simp only [rndQ, routW, h1, h2, h3]; exact ⟨hns, hNI, hw⟩
theorem rnd3_ret {n : Nat} {Sm Sn S' : St} {NI : Prop} {srcs : List Nat} {Q : Exit → St → Prop} {a b c : T} (h1 : S'.roots 1000000000 = .live a []) (h2 : S'.roots 1000000001 = .live b []) (h3 : S'.roots 1000000002 = .live c []) (hns : T.noShL [a, b, c]) (hq : Q .ret (setS Sm srcs [a, b, c])) : rndQ n Sm Sn NI srcs 3 Q .ret S' := by
  simp only [rndQ, routW, h1, h2, h3]; exact ⟨hns, hq⟩
set_option maxHeartbeats 4000000 in
set_option maxRecDepth 20000 in
theorem impl_firstKernel_ok (m : List (List Int)) (hm : isMat m = true) : Fun Try.prog 55 [] [.t (rows m)] fun o res => o = [] ∧ res = firstO m := by
  obtain ⟨m1, m2, m3, m4, m5, m6⟩ := isMat_spec hm
  obtain ⟨m0, hm0⟩ : ∃ m0, m[0]? = some m0 := ⟨_, List.getElem?_eq_getElem (by omega)⟩
  have hmw : wid m = m0.length := by rw [wid, List.headD_eq_head?_getD, List.head?_eq_getElem?, hm0]; rfl
  have hw1 : 1 ≤ m0.length := by rw [← hmw]; exact m3
  have hw4 : m0.length ≤ 4 := by rw [← hmw]; exact m4
  refine fun_impl_firstKernel_h (by simp) ?_
  simp -implicitDefEqProofs only [go_sem, evR, ints, rows, rat, rats, c_impl_firstKernel_h]
  refine SemC.loopR (σ := Nat) (fun k => St.of [(1, .own 1), (2, .own 2), (3, .own 3), (4, .own 4), (5, .own 77)] [(1, .box [rows m]), (2, zbox), (3, nbox), (4, nbox), (77, .box [.i (k + 1 : Nat)])]) (fun k => k ≤ 4 ∧ noneI m k) (fun k => 4 - k) 0 (Weak.of _ _ [some 1, some 2, some 3, some 4, some 5] (by simp) (by simp) ?_ ?_) ⟨by omega, fun k' hk => by omega⟩ fun k hk R hn hr' he => ?_
  · simp -implicitDefEqProofs only [ints, rows, Nat.reduceBEq, wkR, Nat.reduceEqDiff, ↓reduceIte, wrR]
  · exact ⟨⟨_, rfl, .refl _⟩, rfl, ⟨_, rfl, .refl _⟩, rfl, ⟨_, rfl, .refl _⟩, rfl, ⟨_, rfl, .refl _⟩, rfl, ⟨_, rfl, .refl _⟩, rfl, trivial⟩
  obtain ⟨hk4, hkI⟩ := hk
  rcases Nat.lt_or_ge k (min m.length m0.length) with h9 | h9
  · have hmm : ((k + 1 : Nat) : Int) ≤ min (m.length : Int) (m0.length : Int) := by omega
    simp -implicitDefEqProofs only [go_sem, evR, ints, rows, rat, rats, hm0, decide_eq_true hmm]
    refine ⟨by omega, by omega, ?_⟩
    refine CallW.res (impl_choices_ok m.length (k + 1 : Nat)) [] rfl Try.call77 ?_ (.inl rfl) ?_
    · simp -implicitDefEqProofs only [agR, Nat.reduceLeDiff, Nat.reduceSub, vaR, go_sem, ints, rows, rat, rats, ratsO, rtR, intsO, rowsO]
    simp -implicitDefEqProofs only [clR, Nat.reduceLeDiff, go_sem, evR, rat]
    have hit := choices_iter m.length (k + 1) (by omega) (by omega) (by omega)
    have hit2 := choices_iter m0.length (k + 1) (by omega) (by omega) (by omega)
    refine SemC.range Try.call98 hit (fun _ => St.of [(1, .own 1), (2, .own 2), (3, .own 3), (4, .own 4), (5, .own 77), (24, .t (.fn 98 [.pin [.i (k + 1 : Nat)] 0, .pin [.i m.length] 0]))] [(1, .box [rows m]), (2, zbox), (3, nbox), (4, nbox), (77, .box [.i (k + 1 : Nat)])]) (fun i => noneR m (k + 1) i) (fun r hr => by simp at hr) [2, 3, 4] [1, 77] (fun _ => [zbox, nbox, nbox]) (fun _ => [(1, .t (.pin [rows m] 0)), (2, .own 1000000000), (3, .own 1000000001), (4, .own 1000000002), (5, .t (.pin [.i (k + 1 : Nat)] 0))]) (Weak.of _ _ [some 1, some 2, some 3, some 4, some 77] (by simp) (by simp) ?_ ?_) ?_ (by decide) (by decide) ?_ (by decide) ?_ ?_ ?_
    · simp -implicitDefEqProofs only [ints, rows, Nat.reduceBEq, wkR, Nat.reduceEqDiff, ↓reduceIte, wrR]
    · exact ⟨⟨_, rfl, .refl _⟩, rfl, ⟨_, rfl, .refl _⟩, rfl, ⟨_, rfl, .refl _⟩, rfl, ⟨_, rfl, .refl _⟩, rfl, ⟨_, rfl, .refl _⟩, rfl, trivial⟩
    · exact fun i _ => rfl
    · exact fun i _ => ⟨rfl, rfl, rfl, trivial⟩
    · intro i _ s hs
      simp only [List.mem_cons, List.not_mem_nil, or_false] at hs
      rcases hs with rfl | rfl | rfl | rfl | rfl
      all_goals
        refine ⟨by simp, ?_⟩
        simp -implicitDefEqProofs only [agR, Nat.reduceLeDiff, Nat.reduceSub, vaR, go_sem, ints, rows, rat, rats, ratsO, rtR, intsO, rowsO, T.toSh, T.toShL]
        trace_state
    · intro i h hI
      rw [List.length_map] at h
      obtain ⟨r, hr⟩ : ∃ r, (comb m.length (k + 1) 0)[i]? = some r := ⟨_, List.getElem?_eq_getElem h⟩
      have hy : (List.map ints (comb m.length (k + 1) 0))[i]'(by rw [List.length_map]; exact h) = ints r := by
        rw [List.getElem_map]; congr 1; exact (List.getElem?_eq_some_iff.1 hr).2
      rw [hy]
      generalize hQ2 : rndQ _ _ _ _ _ _ _ = Q2
      simp -implicitDefEqProofs only [go_sem, evR, ints, rows, rat, rats, hm0]
      refine ⟨by omega, by omega, ?_⟩
      refine CallC.res (impl_choices_ok m0.length (k + 1 : Nat)) [] rfl Try.call77 (fun e R' hR => ?_) (.inl rfl) ?_
      · simp -implicitDefEqProofs only [agR, Nat.reduceLeDiff, Nat.reduceSub, vaR, go_sem, ints, rows, rat, rats, ratsO, rtR, intsO, rowsO]
      simp -implicitDefEqProofs only [clR, Nat.reduceLeDiff, go_sem, evR, rat]
      refine SemC.range Try.call98 hit2 (fun _ => St.of [(1, .t (.pin [rows m] 0)), (2, .own 1000000000), (3, .own 1000000001), (4, .own 1000000002), (5, .t (.pin [.i (k + 1 : Nat)] 0)), (6, .own 6), (31, .t (.fn 98 [.pin [.i (k + 1 : Nat)] 0, .pin [.i m0.length] 0]))] [(1000000000, zbox), (1000000001, nbox), (1000000002, nbox), (6, .box [ints r])]) (fun j => noneC m (k + 1) r j) (fun r hr => by simp at hr) [1000000000, 1000000001, 1000000002] [6] (fun _ => [zbox, nbox, nbox]) (fun _ => [(1, .t (.pin [rows m] 0)), (2, .own 1000000000), (3, .own 1000000001), (4, .own 1000000002), (6, .t (.pin [ints r] 0))]) (Weak.of _ _ [some 1000000000, some 1000000001, some 1000000002, some 6] (by simp) (by simp) ?_ ?_) ?_ (by decide) (by decide) ?_ (by decide) ?_ ?_ ?_
      · simp -implicitDefEqProofs only [ints, rows, Nat.reduceBEq, wkR, Nat.reduceEqDiff, ↓reduceIte, wrR]
      · exact ⟨⟨_, rfl, .refl _⟩, rfl, ⟨_, rfl, .refl _⟩, rfl, ⟨_, rfl, .refl _⟩, rfl, ⟨_, rfl, .refl _⟩, rfl, trivial⟩
      · exact fun i _ => rfl
      · exact fun i _ => ⟨rfl, rfl, rfl, trivial⟩
      · intro i _ s hs
        simp only [List.mem_cons, List.not_mem_nil, or_false] at hs
        rcases hs with rfl | rfl | rfl | rfl | rfl
        all_goals
          refine ⟨by simp, ?_⟩
          simp -implicitDefEqProofs only [agR, Nat.reduceLeDiff, Nat.reduceSub, vaR, go_sem, ints, rows, rat, rats, ratsO, rtR, intsO, rowsO, T.toSh, T.toShL]
          trace_state
      · intro j hj hJ
        rw [List.length_map] at hj
        obtain ⟨c, hc⟩ : ∃ c, (comb m0.length (k + 1) 0)[j]? = some c := ⟨_, List.getElem?_eq_getElem hj⟩
        have hy : (List.map ints (comb m0.length (k + 1) 0))[j]'(by rw [List.length_map]; exact hj) = ints c := by
          rw [List.getElem_map]; congr 1; exact (List.getElem?_eq_some_iff.1 hc).2
        rw [hy]
        have hix : kerIx m r c := kerIx_of hm (k := k + 1) (by omega) (by omega) (List.mem_of_getElem? hr) (by rw [hmw]; exact List.mem_of_getElem? hc)
        generalize hQ3 : rndQ _ _ _ _ _ _ _ = Q3
        simp -implicitDefEqProofs only [go_sem, evR, ints, rows, rat, rats]
        have hkr := comb_nodup _ _ _ r (List.mem_of_getElem? hr)
        have hkc := comb_nodup _ _ _ c (List.mem_of_getElem? hc)
        have hks := impl_kernelSolution_ok m r c hm hix
        by_cases hd : kD m r c = 0
        · rw [kerSolT, if_pos hd] at hks
          refine CallW.res hks [] rfl Try.call78 ?_ (.inl rfl) ?_
          · simp -implicitDefEqProofs only [agR, Nat.reduceLeDiff, Nat.reduceSub, vaR, go_sem, ints, rows, rat, rats, ratsO, rtR, intsO, rowsO]
          simp -implicitDefEqProofs only [clR, Nat.reduceLeDiff, go_sem, evR, rat, zeroT]
          rw [← hQ3]
          refine rnd3_normal rfl rfl rfl (by simp [zbox, nbox, T.noShL, T.noSh]) (noneC_succ hJ (by rw [hmw]; exact hc) (by simp [hitB, hd])) (Weak.of _ _ [some 1000000000, some 1000000001, some 1000000002, some 6] (by simp) (by simp) ?_ ?_)
          · simp -implicitDefEqProofs only [ints, rows, Nat.reduceBEq, wkR, Nat.reduceEqDiff, ↓reduceIte, wrR, setS, St.of, mkEnv, mkRoots]
          · exact ⟨⟨_, rfl, .refl _⟩, rfl, ⟨_, rfl, .refl _⟩, rfl, ⟨_, rfl, .refl _⟩, rfl, ⟨_, rfl, .refl _⟩, rfl, trivial⟩
        · have hb : (kOK m r c && isSolB m (kernX m r c)) = isSolB m (kernX m r c) := by
            cases hB : isSolB m (kernX m r c)
            · simp
            · rw [kOK_of hix hkr hkc hB]; rfl
          rw [kerSolT, if_neg hd, hb] at hks
          refine CallW.res hks [] rfl Try.call78 ?_ (.inl rfl) ?_
          · simp -implicitDefEqProofs only [agR, Nat.reduceLeDiff, Nat.reduceSub, vaR, go_sem, ints, rows, rat, rats, ratsO, rtR, intsO, rowsO]
          simp -implicitDefEqProofs only [clR, Nat.reduceLeDiff, go_sem, evR, rat, solO]
          have hlk : List.lookup 0 [(1, 501), (0, 500)] = some 500 ∧ List.lookup 1 [(1, 501), (0, 500)] = some 501 ∧ List.lookup 2 [(1, 501), (0, 500)] = none ∧ List.lookup 3 [(1, 501), (0, 500)] = none := ⟨rfl, rfl, rfl, rfl⟩
          obtain ⟨lk1, lk2, lk3, lk4⟩ := hlk
          refine ⟨fun hB => ?_, fun hB => ?_⟩
          · refine ⟨_, Weak.trans (Weak.open 8 0 500 rfl rfl rfl (by decide) rfl) (Weak.open 8 1 501 rfl rfl rfl (by decide) rfl), ?_⟩
            simp -implicitDefEqProofs only [go_sem, evR, ints, rows, rat, rats, lk1, lk2, lk3, lk4, zbox, nbox]
            refine CallC.res (impl_indicesOf_ok r (by have := hix.2.1; omega)) [] rfl Try.call79 (fun e R' hR => ?_) (.inl rfl) ?_
            · simp -implicitDefEqProofs only [agR, Nat.reduceLeDiff, Nat.reduceSub, vaR, go_sem, ints, rows, rat, rats, ratsO, rtR, intsO, rowsO]
            simp -implicitDefEqProofs only [clR, Nat.reduceLeDiff, go_sem, evR, rat]
            refine CallC.res (impl_indicesOf_ok c (by have := hix.2.1; have := hix.2.2.1; omega)) [] rfl Try.call79 (fun e R' hR => ?_) (.inl rfl) ?_
            · simp -implicitDefEqProofs only [agR, Nat.reduceLeDiff, Nat.reduceSub, vaR, go_sem, ints, rows, rat, rats, ratsO, rtR, intsO, rowsO]
            simp -implicitDefEqProofs only [clR, Nat.reduceLeDiff, go_sem, evR, rat]
            rw [← hQ3]
            refine rnd3_ret rfl rfl rfl (by simp [ratsO_noSh, intsO_noSh, T.noShL, T.noSh]) ?_
            simp -implicitDefEqProofs only [go_sem, evR, ints, rows, rat, rats]
            rw [← hQ2]
            refine rnd3_ret rfl rfl rfl (by simp [ratsO_noSh, intsO_noSh, T.noShL, T.noSh]) ?_
            have hff := firstF_some (m := m) (k := k) (r := r) (c := c) (by rw [hmw]; exact h9) hkI hr hI (by rw [hmw]; exact hc) hJ (by simp [hitB, hB, hd])
            simp -implicitDefEqProofs only [go_sem, evR, ints, rows, rat, rats]
            refine hr' _ ?_
            simp -implicitDefEqProofs only [go_sem, evR, ints, rows, rat, rats, setS, updS, rootOf]
            rw [firstO, hff]; rfl
          · rw [← hQ3]
            refine rnd3_normal rfl rfl rfl (by simp [zbox, nbox, T.noShL, T.noSh]) (noneC_succ hJ (by rw [hmw]; exact hc) (by simp [hitB, hB])) (Weak.of _ _ [some 1000000000, some 1000000001, some 1000000002, some 6] (by simp) (by simp) ?_ ?_)
            · simp -implicitDefEqProofs only [ints, rows, Nat.reduceBEq, wkR, Nat.reduceEqDiff, ↓reduceIte, wrR, setS, St.of, mkEnv, mkRoots]
            · exact ⟨⟨_, rfl, .refl _⟩, rfl, ⟨_, rfl, .refl _⟩, rfl, ⟨_, rfl, .refl _⟩, rfl, ⟨_, rfl, .refl _⟩, rfl, trivial⟩
      · intro hJ
        rw [List.length_map] at hJ
        simp -implicitDefEqProofs only [go_sem, evR, ints, rows, rat, rats]
        rw [← hQ2]
        refine rnd3_normal rfl rfl rfl (by simp [zbox, nbox, T.noShL, T.noSh]) (noneR_succ hI hr (by rw [hmw]; exact Nat.le_refl _) hJ) (Weak.of _ _ [some 1, some 2, some 3, some 4, some 77] (by simp) (by simp) ?_ ?_)
        · simp -implicitDefEqProofs only [ints, rows, Nat.reduceBEq, wkR, Nat.reduceEqDiff, ↓reduceIte, wrR, setS, St.of, mkEnv, mkRoots]
        · exact ⟨⟨_, rfl, .refl _⟩, rfl, ⟨_, rfl, .refl _⟩, rfl, ⟨_, rfl, .refl _⟩, rfl, ⟨_, rfl, .refl _⟩, rfl, ⟨_, rfl, .refl _⟩, rfl, trivial⟩
    · intro hI
      rw [List.length_map] at hI
      simp -implicitDefEqProofs only [go_sem, evR, ints, rows, rat, rats]
      have hk2 : IntKind.i64.wrap (((k + 1 : Nat) : Int) + 1) = ((k + 1 + 1 : Nat) : Int) := by rw [wrap64 (by omega) (by omega)]; omega
      rw [hk2]
      refine hn _ (k + 1) (Weak.of _ _ [some 1, some 2, some 3, some 4, some 5] (by simp) (by simp) ?_ ?_) ⟨by omega, noneI_succ (i := (comb m.length (k + 1) 0).length) hkI (Nat.le_refl _) hI⟩ (by omega)
      · simp -implicitDefEqProofs only [ints, rows, Nat.reduceBEq, wkR, Nat.reduceEqDiff, ↓reduceIte, wrR]
      · exact ⟨⟨_, rfl, .refl _⟩, rfl, ⟨_, rfl, .refl _⟩, rfl, ⟨_, rfl, .refl _⟩, rfl, ⟨_, rfl, .refl _⟩, rfl, ⟨_, rfl, .refl _⟩, rfl, trivial⟩
  · have hmm : ¬ ((k + 1 : Nat) : Int) ≤ min (m.length : Int) (m0.length : Int) := by omega
    simp -implicitDefEqProofs only [go_sem, evR, ints, rows, rat, rats, hm0, decide_eq_false hmm]
    refine ⟨by omega, by omega, he _ _ ?_⟩
    simp -implicitDefEqProofs only [go_sem, evR, ints, rows, rat, rats, zbox, nbox]
    rw [firstO, firstF_none hkI (by omega)]; rfl
end
end Go.Ab

/- Contracts: solutions of matrices, both sides. -/
set_option linter.unusedSimpArgs false
set_option linter.unusedVariables false
namespace Go.Ab
open Go.Proofs
theorem CallW.weak {P : Program} {n : Nat} {d : Option Nat} {f : Operand} {ops : List Operand} {K : St → Prop} {S S' : St} (h : Weak n S S') (hk : CallW P n d f ops K S') : CallW P n d f ops K S := fun o ts h1 h2 h3 X w0 O0 a w hs fp g Q => by
  obtain ⟨hs', fp', g'⟩ := h X w0 O0 a w hs fp g
  exact hk o ts h1 h2 h3 X w0 O0 a w hs' fp' g' Q
def kerSol (m : List (List Int)) : Sol := match firstF m with
  | some (r, c) => kernX m r c
  | none => ⟨[], [], (0, 0)⟩
def kerR (m : List (List Int)) : List Int := match firstF m with
  | some (r, _) => r
  | none => []
def kerC (m : List (List Int)) : List Int := match firstF m with
  | some (_, c) => c
  | none => []
theorem Le.agg4 {a a' b b' c d : T} (h1 : Le a a') (h2 : Le b b') : Le (.agg [a, b, c, d]) (.agg [a', b', c, d]) :=
  .agg rfl fun i h h' => match i, h, h' with
    | 0, _, _ => h1
    | 1, _, _ => h2
    | 2, _, _ => .refl _
    | 3, _, _ => .refl _
    | _ + 4, h, _ => absurd h (by simp)
theorem zeroO : Le zeroT (solO ⟨[], [], (0, 0)⟩) := Le.agg4 (.nilArr 2) (.nilArr 2)
theorem impl_firstKernel_le (m : List (List Int)) (hm : isMat m = true) : Fun Try.prog 55 [] [.t (rows m)] fun o res => o = [] ∧ res = .tup [solO (kerSol m), intsO (kerR m), intsO (kerC m)] := by
  refine Fun.le (impl_firstKernel_ok m hm) ?_
  rintro o r ⟨rfl, rfl⟩
  refine ⟨_, ?_, rfl, rfl⟩
  unfold firstO kerSol kerR kerC
  cases firstF m with
  | none => exact .tup3 zeroO (.nilArr 1) (.nilArr 1)
  | some x => exact .refl _
def vmR (m : List (List Int)) : (Int × Int) × Int := if isMat m then ((kerSol m).v, 0) else ((0, 0), 1)
section
attribute [-go_sem] load1C load1V fldC lenC idxC loadNV
theorem impl_ValueOfMatrix_ok (m : List (List Int)) (hml : (m.length : Int) ≤ 1000000000000) (hr : ∀ r ∈ m, r.length ≤ 1000000000000) : Pure Try.prog 17 [rows m] (redT (vmR m)) := by
  refine fun_impl_ValueOfMatrix (by simp) ?_
  simp -implicitDefEqProofs only [go_sem, evR, ints, rows, rat, rats, c_impl_ValueOfMatrix]
  refine CallW.pure (impl_IsMatrix_ok m hml hr) [] rfl Try.call38 ?_ (by first | trivial | simp [T.noSh, T.noShL, rat]) rfl ?_
  · simp -implicitDefEqProofs only [agR, Nat.reduceLeDiff, Nat.reduceSub, vaR, go_sem, ints, rows, rat, rats, ratsO, rtR, intsO, rowsO]
  simp -implicitDefEqProofs only [go_sem, evR, ints, rows, rat, rats]
  refine ⟨fun h => ?_, fun h => ?_⟩
  · have h : isMat m = false := by simpa using h
    rw [vmR, h]; rfl
  · have h : isMat m = true := by simpa using h
    refine CallW.res (impl_firstKernel_le m h) [] rfl Try.call55 ?_ (.inl rfl) ?_
    · simp -implicitDefEqProofs only [agR, Nat.reduceLeDiff, Nat.reduceSub, vaR, go_sem, ints, rows, rat, rats, ratsO, rtR, intsO, rowsO]
    simp -implicitDefEqProofs only [clR, Nat.reduceLeDiff, go_sem, evR, rat, solO]
    rw [vmR, h]; rfl
end
end Go.Ab
