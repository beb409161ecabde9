/- Contracts: the size of a matrix. -/
import Derived.Test.YtnnmgdngfofjlaaDoorQ3
set_option linter.unusedSimpArgs false
set_option linter.unusedVariables false
namespace Go.Ab
open Go.Proofs

def budgetRows : List (List Int) → Int → Int
  | [], left => left
  | r :: m, left => if left - r.length < 0 then -1 else budgetRows m (left - r.length)
def budgetMat (m : List (List Int)) (left : Int) : Int := if left - m.length < 0 then -1 else budgetRows m (left - m.length)

theorem drop_of_get {α : Type} {l : List α} {i : Nat} {x : α} (h : l[i]? = some x) : l.drop i = x :: l.drop (i + 1) := by
  obtain ⟨hi, rfl⟩ := List.getElem?_eq_some_iff.1 h
  exact List.drop_eq_getElem_cons hi

theorem laws_szInt64SS_ok (m : List (List Int)) (left : Int) (hm : (m.length : Int) ≤ 9223372036854775807) (hr : ∀ r ∈ m, (r.length : Int) ≤ 9223372036854775807) (h0 : -1 ≤ left) (h1 : left ≤ 1000000000000) :
    Pure Tryd.prog 13 [rows m, .i left] (.i (budgetMat m left)) := by
  refine fun_laws_szInt64SS (by simp) ?_
  simp -implicitDefEqProofs only [c_laws_szInt64SS, rows, go_sem]
  rw [wrap64 (by omega) (by omega)]
  refine ⟨fun h => ?_, fun h => ?_⟩
  · simp [budgetMat, h]
  · refine SemC.loopR (σ := Nat × Int) (fun s => St.of [(0, .t (rows m)), (1, .t (.i s.2)), (5, .t (.i s.1))] []) (fun s => s.1 ≤ m.length ∧ 0 ≤ s.2 ∧ s.2 ≤ left ∧ budgetRows (m.drop s.1) s.2 = budgetMat m left) (fun s => m.length - s.1) (0, left - m.length) (Weak.of _ [] [] (by simp) (by simp) ?_ trivial) ⟨by simp, by simp only []; omega, by simp only []; omega, by simp [budgetMat, h]⟩ fun s hI R hn hr' he => ?_
    · simp -implicitDefEqProofs only [rows, wkR, Nat.reduceEqDiff, ↓reduceIte]
    · obtain ⟨i, x⟩ := s
      simp only [] at hI
      simp -implicitDefEqProofs only [rows, go_sem, toNat_cast]
      refine ⟨fun h => ⟨by omega, by omega, by omega, fun c r hx hc => ?_⟩, fun h => he _ _ ?_⟩
      · subst hc
        have hrl := hr r (List.mem_of_getElem? hx)
        have hd := hI.2.2.2
        rw [drop_of_get hx, budgetRows] at hd
        refine CallW.pure (laws_szInt64S_ok r x hrl (by omega) (by omega)) [] rfl Tryd.call32 ?_ trivial rfl ?_
        · simp -implicitDefEqProofs only [vaR, go_sem]
        · simp -implicitDefEqProofs only [go_sem]
          refine ⟨fun h2 => hr' _ ?_, fun h2 => hn _ (i + 1, budget r.length x) (Weak.of _ [] [] (by simp) (by simp) ?_ trivial) ?_ (by simp only []; omega)⟩
          · simp -implicitDefEqProofs only [go_sem]
            simp only [budget] at h2
            split at h2
            · rename_i h3; rw [if_pos h3] at hd; rw [hd]
            · omega
          · simp -implicitDefEqProofs only [rows, wkR, Nat.reduceEqDiff, ↓reduceIte, next64 (by omega : i < m.length) (by omega)]
          · simp only [budget] at h2 ⊢
            split at h2
            · omega
            · rename_i h3
              rw [if_neg h3] at hd ⊢
              exact ⟨by omega, by omega, by omega, hd⟩
      · simp -implicitDefEqProofs only [go_sem]
        have hd := hI.2.2.2
        rw [List.drop_of_length_le (by omega), budgetRows] at hd
        rw [hd]
end Go.Ab

/- Contracts: IsMatrix. -/
set_option linter.unusedSimpArgs false
set_option linter.unusedVariables false
namespace Go.Ab
open Go.Proofs

theorem spec_l01In_ok (n lo hi : Int) : Pure Tryd.prog 61 [.i n, .i lo, .i hi] (.b (decide (lo ≤ n ∧ n ≤ hi))) := by
  refine fun_spec_l01In (by simp) ?_
  simp -implicitDefEqProofs only [c_spec_l01In, go_sem]
  refine ⟨fun h => ?_, fun h => ?_⟩
  · have : lo ≤ n := h
    simp [this]
  · have : ¬ lo ≤ n := h
    simp [this]

end Go.Ab

/- Contracts: increasing numbers, depths of trees. -/
set_option linter.unusedSimpArgs false
set_option linter.unusedVariables false
namespace Go.Ab
open Go.Proofs

theorem incr_iff {l : List Int} : incr l = true ↔ ∀ i, i + 1 < l.length → l.getD i 0 < l.getD (i + 1) 0 := by
  induction l with
  | nil => simp [incr]
  | cons a l ih =>
    cases l with
    | nil => simp [incr]
    | cons b l =>
      rw [incr, Bool.and_eq_true, decide_eq_true_eq, ih]
      constructor
      · rintro ⟨h1, h2⟩ i hi
        cases i with
        | zero => simpa using h1
        | succ i => simpa using h2 i (by simpa using hi)
      · intro h
        refine ⟨by simpa using h 0 (by simp), fun i hi => ?_⟩
        simpa using h (i + 1) (by simpa using hi)
theorem getD_of {l : List Int} {i : Nat} {x : Int} (h : l[i]? = some x) : l.getD i 0 = x := by rw [List.getD_eq_getElem?_getD, h]; rfl
theorem nd_of {l : List Nd} {i : Nat} {x : Nd} (h : l[i]? = some x) : l.getD i nd0 = x := by rw [List.getD_eq_getElem?_getD, h]; rfl
theorem pred64 {i : Nat} (h : 1 ≤ i) (hi : i ≤ 1000000000000) : IntKind.i64.wrap ((i : Int) - 1) = ((i - 1 : Nat) : Int) := by rw [wrap64 (by omega) (by omega)]; omega

theorem impl_increasing_ok (l : List Int) (hl : l.length ≤ 1000000000000) : Pure Tryd.prog 67 [ints l] (.b (incr l)) := by
  refine fun_impl_increasing (by simp) ?_
  simp -implicitDefEqProofs only [go_sem, evR, ints, rows, rat, rats, c_impl_increasing]
  refine SemC.loopR (σ := Nat) (fun i => St.of [(0, .t (ints l)), (3, .t (.i i))] []) (fun i => 1 ≤ i ∧ ∀ j, j + 1 < i → j + 1 < l.length → l.getD j 0 < l.getD (j + 1) 0) (fun i => l.length - i) 1 (Weak.of _ [] [] (by simp) (by simp) ?_ trivial) ⟨by omega, fun j hj => by omega⟩ fun i hI R hn hr he => ?_
  · simp -implicitDefEqProofs only [ints, rows, wkR, Nat.reduceEqDiff, ↓reduceIte]
  · simp -implicitDefEqProofs only [go_sem, evR, ints, rows, rat, rats]
    refine ⟨fun h => ?_, fun h => he _ _ ?_⟩
    · have hil : i < l.length := by omega
      rw [pred64 hI.1 (by omega)]
      obtain ⟨x, hx⟩ : ∃ x, l[i - 1]? = some x := ⟨_, List.getElem?_eq_getElem (by omega)⟩
      obtain ⟨y, hy⟩ : ∃ y, l[i]? = some y := ⟨_, List.getElem?_eq_getElem (by omega)⟩
      simp -implicitDefEqProofs only [go_sem, evR, ints, rows, rat, rats, hx, hy, toNat_cast]
      refine ⟨by omega, by omega, by omega, by omega, by omega, by omega, fun h1 => hr _ ?_, fun h1 => hn _ (i + 1) (Weak.of _ [] [] (by simp) (by simp) ?_ trivial) ⟨by omega, fun j hj hjl => ?_⟩ (by omega)⟩
      · simp -implicitDefEqProofs only [go_sem, evR, ints, rows, rat, rats]
        have : incr l = false := by
          cases hc : incr l with
          | false => rfl
          | true =>
            have := incr_iff.1 hc (i - 1) (by omega)
            rw [show i - 1 + 1 = i by omega, getD_of hx, getD_of hy] at this
            omega
        rw [this]
      · simp -implicitDefEqProofs only [ints, rows, wkR, Nat.reduceEqDiff, ↓reduceIte, next64 hil hl]
      · by_cases hji : j + 1 = i
        · have e : j = i - 1 := by omega
          rw [hji, e, getD_of hx, getD_of hy]; omega
        · exact hI.2 j (by omega) hjl
    · simp -implicitDefEqProofs only [go_sem, evR, ints, rows, rat, rats]
      have : incr l = true := incr_iff.2 fun j hj => hI.2 j (by omega) hj
      rw [this]

theorem spec_l01Rises_ok (l : List Int) (n : Nat) (hl : l.length ≤ 1000000000000) (hn0 : n ≤ 1000000000000) : Pure Tryd.prog 83 [ints l, .i n] (.b (rises n l)) := by
  have hw : IntKind.i64.wrap ((n : Int) - 1) = (n : Int) - 1 := wrap64 (by omega) (by omega)
  refine fun_spec_l01Rises (by simp) ?_
  simp -implicitDefEqProofs only [go_sem, evR, ints, rows, rat, rats, c_spec_l01Rises]
  refine SemC.loopR (σ := Nat) (fun i => St.of [(0, .t (ints l)), (1, .t (.i n)), (5, .t (.i i))] []) (fun i => i ≤ l.length ∧ (∀ c ∈ l.take i, 0 ≤ c ∧ c ≤ (n : Int) - 1) ∧ ∀ j, j + 1 < i → j + 1 < l.length → l.getD j 0 < l.getD (j + 1) 0) (fun i => l.length - i) 0 (Weak.of _ [] [] (by simp) (by simp) ?_ trivial) ⟨by simp, by simp, fun j hj => by omega⟩ fun i hI R hn hr he => ?_
  · simp -implicitDefEqProofs only [ints, rows, wkR, Nat.reduceEqDiff, ↓reduceIte]
  · obtain ⟨hi, h2, h3⟩ := hI
    simp -implicitDefEqProofs only [go_sem, evR, ints, rows, rat, rats, hw]
    refine ⟨fun h => ?_, fun h => he _ _ ?_⟩
    · have hil : i < l.length := by omega
      obtain ⟨y, hy⟩ : ∃ y, l[i]? = some y := ⟨_, List.getElem?_eq_getElem hil⟩
      refine ⟨by omega, by omega, by omega, fun y' hy' => ?_⟩
      rw [hy] at hy'; cases hy'
      refine CallV.pure (spec_l01In_ok y 0 ((n : Int) - 1)) [] rfl Tryd.call61 (fun e R' hR => ?_) (by first | trivial | simp [T.noSh, T.noShL, rat]) (fun _ => rfl) ?_
      · simp -implicitDefEqProofs only [agR, Nat.reduceLeDiff, Nat.reduceSub, vaR, go_sem, ints, rows, rat, rats, ratsO, rtR, intsO, rowsO]
      simp -implicitDefEqProofs only [go_sem, evR, ints, rows, rat, rats]
      have next : 0 ≤ y ∧ y ≤ (n : Int) - 1 → ∀ c ∈ l.take (i + 1), 0 ≤ c ∧ c ≤ (n : Int) - 1 := fun hy1 c hc => by
        rw [List.take_add_one, hy] at hc
        rcases List.mem_append.1 hc with hc | hc
        · exact h2 c hc
        · simp at hc; rw [hc]; exact hy1
      refine ⟨fun h1 => ⟨fun h4 => ?_, fun h4 => ?_⟩, fun h1 => hr _ ?_⟩
      · have h1 : 0 ≤ y ∧ y ≤ (n : Int) - 1 := by simpa using h1
        have hi1 : 1 ≤ i := by omega
        obtain ⟨x, hx⟩ : ∃ x, l[i - 1]? = some x := ⟨_, List.getElem?_eq_getElem (by omega)⟩
        rw [pred64 hi1 (by omega)]
        simp -implicitDefEqProofs only [go_sem, evR, ints, rows, rat, rats, hx, hy, toNat_cast]
        refine ⟨by omega, by omega, by omega, by omega, by omega, by omega, fun h5 => hr _ ?_, fun h5 => hn _ (i + 1) (Weak.of _ [] [] (by simp) (by simp) ?_ trivial) ⟨by omega, next h1, fun j hj hjl => ?_⟩ (by omega)⟩
        · simp -implicitDefEqProofs only [go_sem, evR, ints, rows, rat, rats]
          have : rises n l = false := by
            cases hc : rises n l with
            | false => rfl
            | true =>
              rw [rises, Bool.and_eq_true] at hc
              have := incr_iff.1 hc.2 (i - 1) (by omega)
              rw [show i - 1 + 1 = i by omega, getD_of hx, getD_of hy] at this
              omega
          rw [this]
        · simp -implicitDefEqProofs only [ints, rows, wkR, Nat.reduceEqDiff, ↓reduceIte, next64 hil hl]
        · by_cases hji : j + 1 = i
          · have e : j = i - 1 := by omega
            rw [hji, e, getD_of hx, getD_of hy]; omega
          · exact h3 j (by omega) hjl
      · have h1 : 0 ≤ y ∧ y ≤ (n : Int) - 1 := by simpa using h1
        refine hn _ (i + 1) (Weak.of _ [] [] (by simp) (by simp) ?_ trivial) ⟨by omega, next h1, fun j hj hjl => h3 j (by omega) hjl⟩ (by omega)
        simp -implicitDefEqProofs only [ints, rows, wkR, Nat.reduceEqDiff, ↓reduceIte, next64 hil hl]
      · simp -implicitDefEqProofs only [go_sem, evR, ints, rows, rat, rats]
        have h1 : ¬ (0 ≤ y ∧ y ≤ (n : Int) - 1) := by
          have h1 : y < 0 ∨ (n : Int) - 1 < y := by simpa using h1
          omega
        have : rises n l = false := by
          cases hc : rises n l with
          | false => rfl
          | true =>
            rw [rises, Bool.and_eq_true, List.all_eq_true] at hc
            have := hc.1 y (List.mem_of_getElem? hy)
            exact absurd (by simpa using this) h1
        rw [this]
    · simp -implicitDefEqProofs only [go_sem, evR, ints, rows, rat, rats]
      have : rises n l = true := by
        rw [rises, Bool.and_eq_true, List.all_eq_true]
        refine ⟨fun c hc => by have := h2 c (by rw [List.take_of_length_le (by omega)]; exact hc); simpa using this, incr_iff.2 fun j hj => h3 j (by omega) hj⟩
      rw [this]
end Go.Ab

/- Contracts: impl.IsMatrix. -/
set_option linter.unusedSimpArgs false
set_option linter.unusedVariables false
namespace Go.Ab
open Go.Proofs

end Go.Ab

/- Contracts: impl.IsMatrix. -/
set_option linter.unusedSimpArgs false
set_option linter.unusedVariables false
namespace Go.Ab
open Go.Proofs

end Go.Ab

/- The law FnExactIsMatrix, as a contract. -/
set_option linter.unusedSimpArgs false
set_option linter.unusedVariables false
namespace Go.Ab
open Go.Proofs

theorem budgetRows_ok : ∀ {m : List (List Int)} {left : Int}, 0 ≤ left → 0 ≤ budgetRows m left → ∀ r ∈ m, (r.length : Int) ≤ left
  | [], left, _, _, r, hr => by simp at hr
  | x :: m, left, h0, h, r, hr => by
    simp only [budgetRows] at h
    split at h
    · omega
    · rename_i h1
      rcases List.mem_cons.1 hr with rfl | hr
      · omega
      · have := budgetRows_ok (by omega) h r hr; omega
theorem budgetMat_ok {m : List (List Int)} {left : Int} (h0 : 0 ≤ left) (h : 0 ≤ budgetMat m left) : (m.length : Int) ≤ left ∧ ∀ r ∈ m, (r.length : Int) ≤ left := by
  simp only [budgetMat] at h
  split at h
  · omega
  · exact ⟨by omega, fun r hr => by have := budgetRows_ok (by omega) h r hr; omega⟩

end Go.Ab

/- Contracts: copies of rows, least and greatest numbers, marks. -/
set_option linter.unusedSimpArgs false
set_option linter.unusedVariables false
namespace Go.Ab
open Go.Proofs

theorem take_snoc {α : Type} {l : List α} {i : Nat} {x : α} (h : l[i]? = some x) : l.take (i + 1) = l.take i ++ [x] := by
  rw [List.take_add_one, h]; rfl

def marks : Nat → Int → List Int
  | 0, _ => []
  | n + 1, k => k :: marks n (k + 1)
def held : List Int → Int → Int
  | [], k => k
  | x :: l, k => if x = k then held l (k + 1) else -1
end Go.Ab

/- Contracts: depths of trees. -/
set_option linter.unusedSimpArgs false
set_option linter.unusedVariables false
namespace Go.Ab
open Go.Proofs

def depI (l : List Nd) (f : Nat) (cs : List Int) : Int := cs.foldl (fun d c => max d (dep l f c.toNat)) 0
theorem depI_snoc (l : List Nd) (f : Nat) (cs : List Int) (c : Int) : depI l f (cs ++ [c]) = max (depI l f cs) (dep l f c.toNat) := by simp [depI, List.foldl_append]
theorem depI_bound (l : List Nd) (f : Nat) : ∀ cs : List Int, 0 ≤ depI l f cs ∧ depI l f cs ≤ f := by
  intro cs
  have key : ∀ (cs : List Int) (d : Int), 0 ≤ d ∧ d ≤ f → 0 ≤ cs.foldl (fun d c => max d (dep l f c.toNat)) d ∧ cs.foldl (fun d c => max d (dep l f c.toNat)) d ≤ f := by
    intro cs
    induction cs with
    | nil => intro d h; exact h
    | cons c cs ih =>
      intro d h
      rw [List.foldl_cons]
      have := dep_nonneg (l := l) f c.toNat
      exact ih _ (by omega)
  exact key cs 0 (by omega)
theorem dep_succ {l : List Nd} {f i : Nat} {x : Nd} (hx : l[i]? = some x) : dep l (f + 1) i = if x.p = 2 then 0 else depI l f x.ch + 1 := by
  have := nd_of hx
  unfold nd0 at this
  rw [dep, this]; rfl

theorem impl_depthFrom_ok {l : List Nd} (hl : ndsOK l) (hln : l.length ≤ 1000000) : ∀ (f i : Nat), l.length ≤ i + f → i < l.length → f ≤ 1000000 → Pure Tryd.prog 56 [treeT l, .i i] (.i (dep l f i)) := by
  intro f
  induction f with
  | zero => intro i h1 h2; omega
  | succ f ih =>
    intro i h1 h2 hf
    obtain ⟨x, hx⟩ : ∃ x, l[i]? = some x := ⟨_, List.getElem?_eq_getElem h2⟩
    rw [dep_succ hx]
    refine fun_impl_depthFrom (by simp) ?_
    simp -implicitDefEqProofs only [go_sem, evR, ints, rows, rat, rats, c_impl_depthFrom, treeT, nodes, nd_at hx]
    refine ⟨by omega, by rw [nd_len]; omega, by rw [nd_len]; omega, ?_⟩
    refine ⟨fun h => ?_, fun h => ?_⟩
    · rw [if_pos (by simpa using h)]
    · have hp : x.p ≠ 2 := by simpa using h
      rw [if_neg hp]
      have hch := ndOK_child (hl i x hx)
      have hcl := (ndOK_fields (hl i x hx)).2.2.2.2.2
      refine SemC.loopR (σ := Nat) (fun k => St.of [(2, .own 2), (6, .t (.i (depI l f (x.ch.take k)))), (18, .t (ints x.ch)), (19, .t (.i x.ch.length)), (20, .t (.i k))] [(2, .box [nodes l])]) (fun k => k ≤ x.ch.length) (fun k => x.ch.length - k) 0 (Weak.of _ _ [some 2] (by simp) (by simp) ?_ ?_) (by simp) fun k hk R hn hr he => ?_
      · simp -implicitDefEqProofs only [ints, rows, Nat.reduceBEq, wkR, Nat.reduceEqDiff, ↓reduceIte, wrR, depI, List.take_zero, List.foldl_nil]
      · exact ⟨⟨_, rfl, .refl _⟩, rfl, trivial⟩
      · simp -implicitDefEqProofs only [go_sem, evR, ints, rows, rat, rats, nodes]
        refine ⟨fun h => ⟨by omega, by omega, by omega, fun c hc => ?_⟩, fun h => he _ _ ?_⟩
        · have hcb := hch c (List.mem_of_getElem? hc)
          have hpure := ih c.toNat (by omega) (by omega) (by omega)
          rw [show ((c.toNat : Nat) : Int) = c by omega] at hpure
          simp only [treeT, nodes] at hpure
          refine CallW.pure hpure [] rfl Tryd.call56 ?_ (by first | trivial | simp [T.noSh, T.noShL, rat]) rfl ?_
          · simp -implicitDefEqProofs only [agR, Nat.reduceLeDiff, Nat.reduceSub, vaR, go_sem, ints, rows, rat, rats, ratsO, rtR, intsO, rowsO]
          simp -implicitDefEqProofs only [go_sem, evR, ints, rows, rat, rats, treeT, nodes]
          have e := depI_snoc l f (x.ch.take k) c
          rw [← take_snoc hc] at e
          refine hn _ (k + 1) (Weak.of _ _ [some 2] (by simp) (by simp) ?_ ?_) (by omega) (by omega)
          · simp -implicitDefEqProofs only [ints, rows, Nat.reduceBEq, wkR, Nat.reduceEqDiff, ↓reduceIte, wrR, next64 (by omega : k < x.ch.length) (by omega), e]
          · exact ⟨⟨_, rfl, .refl _⟩, rfl, trivial⟩
        · simp -implicitDefEqProofs only [go_sem, evR, ints, rows, rat, rats]
          have hb := depI_bound l f x.ch
          rw [show k = x.ch.length by omega, List.take_length, wrap64 (by omega) (by omega)]

theorem spec_l20Depth_ok {l : List Nd} (hl : ndsOK l) (hln : l.length ≤ 1000000) : ∀ (f i : Nat), l.length ≤ i + f → i < l.length → f ≤ 1000000 → Pure Tryd.prog 40 [treeT l, .i i] (.i (dep l f i)) := by
  intro f
  induction f with
  | zero => intro i h1 h2; omega
  | succ f ih =>
    intro i h1 h2 hf
    obtain ⟨x, hx⟩ : ∃ x, l[i]? = some x := ⟨_, List.getElem?_eq_getElem h2⟩
    rw [dep_succ hx]
    refine fun_spec_l20Depth (by simp) ?_
    simp -implicitDefEqProofs only [go_sem, evR, ints, rows, rat, rats, c_spec_l20Depth, treeT, nodes, nd_at hx]
    refine ⟨by omega, by rw [nd_len]; omega, by rw [nd_len]; omega, ?_⟩
    refine ⟨fun h => ?_, fun h => ?_⟩
    · rw [if_pos (by simpa using h)]
    · have hp : x.p ≠ 2 := by simpa using h
      rw [if_neg hp]
      have hch := ndOK_child (hl i x hx)
      have hcl := (ndOK_fields (hl i x hx)).2.2.2.2.2
      refine SemC.loopR (σ := Nat) (fun k => St.of [(2, .own 2), (5, .own 5), (6, .t (.i (depI l f (x.ch.take k)))), (7, .t (.i k))] [(2, .box [nodes l]), (5, .box [.i x.p, .i x.a, .i x.b, .i x.f, ints x.ch])]) (fun k => k ≤ x.ch.length) (fun k => x.ch.length - k) 0 (Weak.of _ _ [some 2, some 5] (by simp) (by simp) ?_ ?_) (by simp) fun k hk R hn hr he => ?_
      · simp -implicitDefEqProofs only [ints, rows, Nat.reduceBEq, wkR, Nat.reduceEqDiff, ↓reduceIte, wrR, depI, List.take_zero, List.foldl_nil]
      · exact ⟨⟨_, rfl, .refl _⟩, rfl, ⟨_, rfl, .refl _⟩, rfl, trivial⟩
      · simp -implicitDefEqProofs only [go_sem, evR, ints, rows, rat, rats, nodes]
        refine ⟨fun h => ⟨by omega, by omega, by omega, fun c hc => ?_⟩, fun h => he _ _ ?_⟩
        · have hcb := hch c (List.mem_of_getElem? hc)
          have hpure := ih c.toNat (by omega) (by omega) (by omega)
          rw [show ((c.toNat : Nat) : Int) = c by omega] at hpure
          simp only [treeT, nodes] at hpure
          refine CallV.pure hpure [] rfl Tryd.call40 (fun e R' hR => ?_) (by first | trivial | simp [T.noSh, T.noShL, rat]) (fun _ => rfl) ?_
          · simp -implicitDefEqProofs only [agR, Nat.reduceLeDiff, Nat.reduceSub, vaR, go_sem, ints, rows, rat, rats, ratsO, rtR, intsO, rowsO]
          simp -implicitDefEqProofs only [go_sem, evR, ints, rows, rat, rats, treeT, nodes]
          have e := depI_snoc l f (x.ch.take k) c
          rw [← take_snoc hc] at e
          refine hn _ (k + 1) (Weak.of _ _ [some 2, some 5] (by simp) (by simp) ?_ ?_) (by omega) (by omega)
          · simp -implicitDefEqProofs only [ints, rows, Nat.reduceBEq, wkR, Nat.reduceEqDiff, ↓reduceIte, wrR, next64 (by omega : k < x.ch.length) (by omega), e]
          · exact ⟨⟨_, rfl, .refl _⟩, rfl, ⟨_, rfl, .refl _⟩, rfl, trivial⟩
        · simp -implicitDefEqProofs only [go_sem, evR, ints, rows, rat, rats]
          have hb := depI_bound l f x.ch
          rw [show k = x.ch.length by omega, List.take_length, wrap64 (by omega) (by omega)]
end Go.Ab

/- Contracts: valid trees, the program's. -/
set_option linter.unusedSimpArgs false
set_option linter.unusedVariables false
namespace Go.Ab
open Go.Proofs

theorem isTreeB_nd {l : List Nd} {i : Nat} {x : Nd} (hx : l[i]? = some x) (h : ndOK l.length i x = false) : isTreeB l = false := by
  cases hc : isTreeB l with
  | false => rfl
  | true =>
    have := (isTreeB_spec hc).2.1 i x hx
    rw [h] at this; cases this
theorem isTreeB_occ {l : List Nd} {i : Nat} (hi : i < l.length) (h1 : 1 ≤ i) (h : occ i l ≠ 1) : isTreeB l = false := by
  cases hc : isTreeB l with
  | false => rfl
  | true => rcases (isTreeB_spec hc).2.2.1 i hi with h2 | h2 <;> omega
theorem isTreeB_len {l : List Nd} (h : ¬ (1 ≤ l.length ∧ l.length ≤ 60)) : isTreeB l = false := by
  cases hc : isTreeB l with
  | false => rfl
  | true => exact absurd (isTreeB_spec hc).1 h
theorem isTreeB_fin {l : List Nd} (h1 : 1 ≤ l.length ∧ l.length ≤ 60) (h2 : ndsOK l) (h3 : ∀ i, i < l.length → i = 0 ∨ occ i l = 1) : isTreeB l = decide (dep l l.length 0 ≤ 5) := by
  rw [isTreeB, decide_eq_true h1, (ndsOK_iff l).2 h2]
  have : ((List.range l.length).all fun i => decide (i = 0 ∨ occ i l = 1)) = true := by
    rw [List.all_eq_true]
    intro i hi
    simpa using h3 i (List.mem_range.1 hi)
  rw [this]; simp
theorem ndOK_incr {n i : Nat} {x : Nd} (h : ndOK n i x = true) (hp : x.p ≠ 2) : incr x.ch = true := by
  simp only [ndOK, Bool.and_eq_true] at h
  have h2 := h.2
  rw [if_neg hp] at h2
  simp only [Bool.and_eq_true] at h2
  exact h2.2
theorem ndOK_no {n i : Nat} {x : Nd} (h : ndOK n i x = true → False) : ndOK n i x = false := by
  cases hc : ndOK n i x with
  | false => rfl
  | true => exact (h hc).elim
theorem ndOK_end {n i : Nat} {x : Nd} (h1 : 0 ≤ x.p ∧ x.p ≤ 2) (h2 : 0 ≤ x.a ∧ x.a ≤ 100) (h3 : 0 ≤ x.b ∧ x.b ≤ 100) (hp : x.p = 2) (h4 : x.ch.length = 0) (h5 : -1 ≤ x.f ∧ x.f ≤ 1) (h6 : x.f = -1 → x.a = x.b) : ndOK n i x = true := by
  rw [ndOK, decide_eq_true h1, decide_eq_true h2, decide_eq_true h3, if_pos hp, decide_eq_true (List.length_eq_zero_iff.1 h4), decide_eq_true h5]
  by_cases hf : x.f = -1
  · simp [h6 hf]
  · simp [hf]
theorem ndOK_dec {n i : Nat} {x : Nd} (h1 : 0 ≤ x.p ∧ x.p ≤ 2) (h2 : 0 ≤ x.a ∧ x.a ≤ 100) (h3 : 0 ≤ x.b ∧ x.b ≤ 100) (hp : x.p ≠ 2) (h4 : x.f = -1) (h5 : 1 ≤ x.ch.length ∧ x.ch.length ≤ 4) (h6 : (x.ch.all fun c => decide ((i : Int) + 1 ≤ c ∧ c ≤ (n : Int) - 1)) = true) (h7 : incr x.ch = true) : ndOK n i x = true := by
  rw [ndOK, decide_eq_true h1, decide_eq_true h2, decide_eq_true h3, if_neg hp, decide_eq_true h4, decide_eq_true h5, h6, h7]; rfl

theorem occ_le' (c : Nat) : ∀ (m : List Nd), (∀ x ∈ m, x.ch.length ≤ 4) → occ c m ≤ m.length * 4
  | [], _ => by simp [occ]
  | x :: m, hm => by
    have h1 := occ_le' c m fun y hy => hm y (by simp [hy])
    have h2 := hm x (by simp)
    have e : occ c (x :: m) = (if x.p = 2 then 0 else x.ch.count (c : Int)) + occ c m := by simp [occ]
    have h3 : (if x.p = 2 then 0 else x.ch.count (c : Int)) ≤ 4 := by
      split
      · omega
      · exact Nat.le_trans (List.count_le_length) h2
    rw [e, List.length_cons]; omega
theorem impl_IsTree_ok (l : List Nd) (hl : l.length ≤ 9223372036854775807) (hcl : ∀ x ∈ l, x.ch.length ≤ 9223372036854775807) : Pure Tryd.prog 43 [treeT l] (.b (isTreeB l)) := by
  refine fun_impl_IsTree (by simp) ?_
  simp -implicitDefEqProofs only [go_sem, evR, ints, rows, rat, rats, c_impl_IsTree, treeT, nodes]
  refine CallW.pure (impl_within_ok l.length 1 60) [] rfl Tryd.call44 ?_ (by first | trivial | simp [T.noSh, T.noShL, rat]) rfl ?_
  · simp -implicitDefEqProofs only [agR, Nat.reduceLeDiff, Nat.reduceSub, vaR, go_sem, ints, rows, rat, rats, ratsO, rtR, intsO, rowsO]
  simp -implicitDefEqProofs only [go_sem, evR, ints, rows, rat, rats]
  refine ⟨fun h => ?_, fun h => ?_⟩
  · rw [isTreeB_len (by simp at h; omega)]
  · have hn : 1 ≤ l.length ∧ l.length ≤ 60 := by simp at h; omega
    refine ⟨by omega, by omega, ?_⟩
    refine SemC.loopR (σ := Nat) (fun i => St.of [(1, .own 1), (3, .t (.i l.length)), (4, .own 18), (20, .t (nodes l)), (21, .t (.i l.length)), (22, .t (.i i))] [(1, .box [nodes l]), (18, .arr 1 ((cntV l l.length i 0).map T.i))]) (fun i => i ≤ l.length ∧ ∀ j x, j < i → l[j]? = some x → ndOK l.length j x = true) (fun i => l.length - i) 0 (Weak.of _ _ [some 1, some 18] (by simp) (by simp) ?_ ?_) ⟨by simp, fun j x hj => by omega⟩ fun i hI R hn' hr he => ?_
    · simp -implicitDefEqProofs only [ints, rows, Nat.reduceBEq, wkR, Nat.reduceEqDiff, ↓reduceIte, wrR, nodes]
    · exact ⟨⟨_, rfl, .refl _⟩, rfl, ⟨_, rfl, by rw [made_one, cntV_zero, List.map_replicate]; exact .refl _⟩, rfl, trivial⟩
    · obtain ⟨hi, hOK⟩ := hI
      simp -implicitDefEqProofs only [go_sem, evR, ints, rows, rat, rats, nodes]
      refine ⟨fun h => ?_, fun h => he _ _ ?_⟩
      · have hil : i < l.length := by omega
        obtain ⟨x, hx⟩ : ∃ x, l[i]? = some x := ⟨_, List.getElem?_eq_getElem hil⟩
        have hwi : IntKind.i64.wrap ((i : Int) + 1) = (i : Int) + 1 := wrap64 (by omega) (by omega)
        have hwn : IntKind.i64.wrap ((l.length : Int) - 1) = (l.length : Int) - 1 := wrap64 (by omega) (by omega)
        have hno : (ndOK l.length i x = true → False) → isTreeB l = false := fun h => isTreeB_nd hx (ndOK_no h)
        have hxc := hcl x (List.mem_of_getElem? hx)
        refine ⟨by omega, by rw [nd_len]; omega, by rw [nd_len]; omega, ?_⟩
        rw [nd_at hx]
        simp -implicitDefEqProofs only [go_sem, evR, ints, rows, rat, rats]
        refine CallW.pure (impl_within_ok x.p 0 2) [] rfl Tryd.call44 ?_ (by first | trivial | simp [T.noSh, T.noShL, rat]) rfl ?_
        · simp -implicitDefEqProofs only [agR, Nat.reduceLeDiff, Nat.reduceSub, vaR, go_sem, ints, rows, rat, rats, ratsO, rtR, intsO, rowsO]
        simp -implicitDefEqProofs only [go_sem, evR, ints, rows, rat, rats]
        refine ⟨fun h1 => ?_, fun h1 => hr _ ?_⟩
        rotate_left
        · simp -implicitDefEqProofs only [go_sem, evR, ints, rows, rat, rats]
          rw [hno fun hok => by have := (ndOK_fields hok).1; simp at h1; omega]
        have h1 : 0 ≤ x.p ∧ x.p ≤ 2 := by simpa using h1
        refine CallW.pure (impl_within_ok x.a 0 100) [] rfl Tryd.call44 ?_ (by first | trivial | simp [T.noSh, T.noShL, rat]) rfl ?_
        · simp -implicitDefEqProofs only [agR, Nat.reduceLeDiff, Nat.reduceSub, vaR, go_sem, ints, rows, rat, rats, ratsO, rtR, intsO, rowsO]
        simp -implicitDefEqProofs only [go_sem, evR, ints, rows, rat, rats]
        refine ⟨fun h2 => ?_, fun h2 => hr _ ?_⟩
        rotate_left
        · simp -implicitDefEqProofs only [go_sem, evR, ints, rows, rat, rats]
          rw [hno fun hok => by have := (ndOK_fields hok).2.1; simp at h2; omega]
        have h2 : 0 ≤ x.a ∧ x.a ≤ 100 := by simpa using h2
        refine CallW.pure (impl_within_ok x.b 0 100) [] rfl Tryd.call44 ?_ (by first | trivial | simp [T.noSh, T.noShL, rat]) rfl ?_
        · simp -implicitDefEqProofs only [agR, Nat.reduceLeDiff, Nat.reduceSub, vaR, go_sem, ints, rows, rat, rats, ratsO, rtR, intsO, rowsO]
        simp -implicitDefEqProofs only [go_sem, evR, ints, rows, rat, rats]
        refine ⟨fun h3 => hr _ ?_, fun h3 => ⟨fun h4 => ⟨fun h5 => ?_, fun h5 => hr _ ?_⟩, fun h4 => ⟨fun h5 => ?_, fun h5 => hr _ ?_⟩⟩⟩
        · simp -implicitDefEqProofs only [go_sem, evR, ints, rows, rat, rats]
          rw [hno fun hok => by have := (ndOK_fields hok).2.2.1; simp at h3; omega]
        · -- the end of a way
          have h3 : 0 ≤ x.b ∧ x.b ≤ 100 := by simpa using h3
          have h4 : x.p = 2 := by simpa using h4
          refine CallW.pure (impl_within_ok x.f (-1) 1) [] rfl Tryd.call44 ?_ (by first | trivial | simp [T.noSh, T.noShL, rat]) rfl ?_
          · simp -implicitDefEqProofs only [agR, Nat.reduceLeDiff, Nat.reduceSub, vaR, go_sem, ints, rows, rat, rats, ratsO, rtR, intsO, rowsO]
          simp -implicitDefEqProofs only [go_sem, evR, ints, rows, rat, rats]
          have hnext : ndOK l.length i x = true → ∀ j y, j < i + 1 → l[j]? = some y → ndOK l.length j y = true := fun hok j y hj hy => by
            by_cases hji : j = i
            · subst hji; rw [hx] at hy; cases hy; exact hok
            · exact hOK j y (by omega) hy
          refine ⟨fun h6 => ⟨fun h7 => ⟨fun h8 => hr _ ?_, fun h8 => ?_⟩, fun h7 => ?_⟩, fun h6 => hr _ ?_⟩
          · simp -implicitDefEqProofs only [go_sem, evR, ints, rows, rat, rats]
            rw [hno fun hok => by have := ((ndOK_fields hok).2.2.2.1 h4).2.2.2 (by simpa using h7); simp [this] at h8]
          · refine hn' _ (i + 1) (Weak.of _ _ [some 1, some 18] (by simp) (by simp) ?_ ?_) ⟨by omega, hnext (ndOK_end h1 h2 h3 h4 (by omega) (by simpa using h6) fun _ => by simpa using h8)⟩ (by omega)
            · simp -implicitDefEqProofs only [ints, rows, Nat.reduceBEq, wkR, Nat.reduceEqDiff, ↓reduceIte, wrR, nodes, next64 hil (by omega)]
            · exact ⟨⟨_, rfl, .refl _⟩, rfl, ⟨_, rfl, by rw [cntV_skip hx (List.length_eq_zero_iff.1 (by omega))]; exact .refl _⟩, rfl, trivial⟩
          · refine hn' _ (i + 1) (Weak.of _ _ [some 1, some 18] (by simp) (by simp) ?_ ?_) ⟨by omega, hnext (ndOK_end h1 h2 h3 h4 (by omega) (by simpa using h6) fun hf => by simp [hf] at h7)⟩ (by omega)
            · simp -implicitDefEqProofs only [ints, rows, Nat.reduceBEq, wkR, Nat.reduceEqDiff, ↓reduceIte, wrR, nodes, next64 hil (by omega)]
            · exact ⟨⟨_, rfl, .refl _⟩, rfl, ⟨_, rfl, by rw [cntV_skip hx (List.length_eq_zero_iff.1 (by omega))]; exact .refl _⟩, rfl, trivial⟩
          · simp -implicitDefEqProofs only [go_sem, evR, ints, rows, rat, rats]
            rw [hno fun hok => by have := (ndOK_fields hok).2.2.2.1 h4; simp at h6; omega]
        · simp -implicitDefEqProofs only [go_sem, evR, ints, rows, rat, rats]
          rw [hno fun hok => by have := (ndOK_fields hok).2.2.2.1 (by simpa using h4); rw [this.1] at h5; simp at h5]
        · -- a decision
          have h3 : 0 ≤ x.b ∧ x.b ≤ 100 := by simpa using h3
          have h4 : ¬ x.p = 2 := by simpa using h4
          have h5 : x.f = -1 := by simpa using h5
          refine CallW.pure (impl_within_ok x.ch.length 1 4) [] rfl Tryd.call44 ?_ (by first | trivial | simp [T.noSh, T.noShL, rat]) rfl ?_
          · simp -implicitDefEqProofs only [agR, Nat.reduceLeDiff, Nat.reduceSub, vaR, go_sem, ints, rows, rat, rats, ratsO, rtR, intsO, rowsO]
          simp -implicitDefEqProofs only [go_sem, evR, ints, rows, rat, rats, hwi, hwn]
          refine ⟨fun h6 => ?_, fun h6 => hr _ ?_⟩
          rotate_left
          · simp -implicitDefEqProofs only [go_sem, evR, ints, rows, rat, rats]
            rw [hno fun hok => by have := (ndOK_fields hok).2.2.2.2.1 h4; have := (ndOK_fields hok).2.2.2.2.2; simp at h6; omega]
          have h6 : 1 ≤ x.ch.length ∧ x.ch.length ≤ 4 := by simp at h6; omega
          refine CallW.pure (impl_allWithin_ok x.ch ((i : Int) + 1) ((l.length : Int) - 1) (by omega)) [] rfl Tryd.call45 ?_ (by first | trivial | simp [T.noSh, T.noShL, rat]) rfl ?_
          · simp -implicitDefEqProofs only [agR, Nat.reduceLeDiff, Nat.reduceSub, vaR, go_sem, ints, rows, rat, rats, ratsO, rtR, intsO, rowsO]
          simp -implicitDefEqProofs only [go_sem, evR, ints, rows, rat, rats]
          refine ⟨fun h7 => ?_, fun h7 => hr _ ?_⟩
          rotate_left
          · simp -implicitDefEqProofs only [go_sem, evR, ints, rows, rat, rats]
            rw [hno fun hok => by
              have hc := ndOK_child hok
              have : (x.ch.all fun c => decide ((i : Int) + 1 ≤ c ∧ c ≤ (l.length : Int) - 1)) = true := by rw [List.all_eq_true]; intro c hcm; exact decide_eq_true (hc c hcm)
              rw [this] at h7; simp at h7]
          have h7 : (x.ch.all fun c => decide ((i : Int) + 1 ≤ c ∧ c ≤ (l.length : Int) - 1)) = true := by simpa using h7
          refine CallW.pure (impl_increasing_ok x.ch (by omega)) [] rfl Tryd.call67 ?_ (by first | trivial | simp [T.noSh, T.noShL, rat]) rfl ?_
          · simp -implicitDefEqProofs only [agR, Nat.reduceLeDiff, Nat.reduceSub, vaR, go_sem, ints, rows, rat, rats, ratsO, rtR, intsO, rowsO]
          simp -implicitDefEqProofs only [go_sem, evR, ints, rows, rat, rats]
          refine ⟨fun h8 => hr _ ?_, fun h8 => ?_⟩
          · simp -implicitDefEqProofs only [go_sem, evR, ints, rows, rat, rats]
            rw [hno fun hok => by rw [ndOK_incr hok h4] at h8; simp at h8]
          have h8 : incr x.ch = true := by simpa using h8
          have hok := ndOK_dec h1 h2 h3 h4 h5 h6 h7 h8
          have hch := ndOK_child hok
          have hd : l.getD i nd0 = x := by rw [List.getD_eq_getElem?_getD, hx]; rfl
          refine SemC.loopR (σ := Nat) (fun k => St.of [(1, .own 1), (3, .t (.i l.length)), (4, .own 18), (20, .t (nodes l)), (21, .t (.i l.length)), (22, .t (.i i)), (95, .t (ints x.ch)), (96, .t (.i x.ch.length)), (97, .t (.i k))] [(1, .box [nodes l]), (18, .arr 1 ((cntV l l.length i k).map T.i))]) (fun k => k ≤ x.ch.length) (fun k => x.ch.length - k) 0 (Weak.of _ _ [some 1, some 18] (by simp) (by simp) ?_ ?_) (by simp) fun k hk R2 hn2 hr2 he2 => ?_
          · simp -implicitDefEqProofs only [ints, rows, Nat.reduceBEq, wkR, Nat.reduceEqDiff, ↓reduceIte, wrR, nodes]
          · exact ⟨⟨_, rfl, .refl _⟩, rfl, ⟨_, rfl, .refl _⟩, rfl, trivial⟩
          · have hcl' := cntV_length l l.length i k
            simp -implicitDefEqProofs only [go_sem, evR, ints, rows, rat, rats, nodes]
            refine ⟨fun h9 => ⟨by omega, by omega, by omega, fun c hc => ?_⟩, fun h9 => he2 _ _ ?_⟩
            · have hcb := hch c (List.mem_of_getElem? hc)
              obtain ⟨cn, rfl⟩ : ∃ cn : Nat, c = (cn : Int) := ⟨c.toNat, by omega⟩
              have hg := cntV_get l (n := l.length) (i := i) (k := k) (c := cn) (by omega)
              have hset := cntV_set (l := l) (n := l.length) (i := i) (k := k) (c := cn) (by omega) (by rw [hd]; exact hc)
              have hocc := occ_le' cn (l.take i) fun y hy => by
                obtain ⟨j, hj, rfl⟩ := List.mem_iff_getElem.1 hy
                rw [List.length_take] at hj
                rw [List.getElem_take]
                exact (ndOK_fields (hOK j _ (by omega) (List.getElem?_eq_getElem (by omega)))).2.2.2.2.2
              have hlt : (l.take i).length ≤ 60 := by rw [List.length_take]; omega
              have hcnt := List.count_le_length (a := (cn : Int)) (l := (l.getD i nd0).ch.take k)
              have hctl : ((l.getD i nd0).ch.take k).length ≤ 4 := by rw [List.length_take, hd]; omega
              simp only [toNat_cast, hcl', hg, Option.some.injEq, forall_eq']
              rw [wrap64 (n := (occ cn (l.take i) : Int) + (((l.getD i nd0).ch.take k).count (cn : Int) : Nat) + 1) (by omega) (by omega)]
              refine ⟨by omega, by omega, by omega, by omega, by omega, by omega, hn2 _ (k + 1) (Weak.of _ _ [some 1, some 18] (by simp) (by simp) ?_ ?_) (by omega) (by omega)⟩
              · simp -implicitDefEqProofs only [ints, rows, Nat.reduceBEq, wkR, Nat.reduceEqDiff, ↓reduceIte, wrR, nodes, next64 (by omega : k < x.ch.length) (by omega)]
              · refine ⟨⟨_, rfl, .refl _⟩, rfl, ⟨_, rfl, ?_⟩, rfl, trivial⟩
                rw [← hset, List.map_set]; exact .refl _
            · simp -implicitDefEqProofs only [go_sem, evR, ints, rows, rat, rats]
              have hke : k = x.ch.length := by omega
              refine hn' _ (i + 1) (Weak.of _ _ [some 1, some 18] (by simp) (by simp) ?_ ?_) ⟨by omega, fun j y hj hy => ?_⟩ (by omega)
              · simp -implicitDefEqProofs only [ints, rows, Nat.reduceBEq, wkR, Nat.reduceEqDiff, ↓reduceIte, wrR, nodes, next64 hil (by omega)]
              · exact ⟨⟨_, rfl, .refl _⟩, rfl, ⟨_, rfl, by rw [hke, cntV_next hx (fun hp => absurd hp h4)]; exact .refl _⟩, rfl, trivial⟩
              · by_cases hji : j = i
                · subst hji; rw [hx] at hy; cases hy; exact hok
                · exact hOK j y (by omega) hy
        · simp -implicitDefEqProofs only [go_sem, evR, ints, rows, rat, rats]
          rw [hno fun hok => by have := (ndOK_fields hok).2.2.2.2.1 (by simpa using h4); simp [this.1] at h5]
      · simp -implicitDefEqProofs only [go_sem, evR, ints, rows, rat, rats]
        have hie : i = l.length := by omega
        have hnds : ndsOK l := fun j y hy => hOK j y (by have := (List.getElem?_eq_some_iff.1 hy).1; omega) hy
        have hcl' := cntV_length l l.length i 0
        refine ⟨by omega, by omega, ?_⟩
        refine SemC.loopR (σ := Nat) (fun k => St.of [(1, .own 1), (110, .sub 18 1 (l.length - 1)), (111, .t (.i (l.length - 1 : Nat))), (112, .t (.i k))] [(1, .box [nodes l]), (18, .arr 1 ((cntV l l.length l.length 0).map T.i))]) (fun k => k ≤ l.length - 1 ∧ ∀ j, j < k → occ (j + 1) l = 1) (fun k => l.length - 1 - k) 0 (Weak.of _ _ [some 1, some 18] (by simp) (by simp) ?_ ?_) ⟨by simp, fun j hj => by omega⟩ fun k hI R2 hn2 hr2 he2 => ?_
        · simp -implicitDefEqProofs only [ints, rows, Nat.reduceBEq, wkR, Nat.reduceEqDiff, ↓reduceIte, wrR, nodes, hie, cntV_length]
        · exact ⟨⟨_, rfl, .refl _⟩, rfl, ⟨_, rfl, by rw [hie]; exact .refl _⟩, rfl, trivial⟩
        · obtain ⟨hk, hocc⟩ := hI
          simp -implicitDefEqProofs only [go_sem, evR, ints, rows, rat, rats, nodes]
          refine ⟨fun h9 => ⟨by omega, by omega, by rw [cntV_length]; omega, fun a ha => ?_⟩, fun h9 => he2 _ _ ?_⟩
          · rw [cntV_all l l.length (1 + k) (by omega)] at ha
            cases ha
            refine ⟨fun h10 => hr2 _ ?_, fun h10 => hn2 _ (k + 1) (Weak.of _ _ [some 1, some 18] (by simp) (by simp) ?_ ?_) ⟨by omega, fun j hj => ?_⟩ (by omega)⟩
            · simp -implicitDefEqProofs only [go_sem, evR, ints, rows, rat, rats]
              have h10 : ¬ occ (1 + k) l = 1 := by simp at h10; omega
              rw [isTreeB_occ (by omega : 1 + k < l.length) (by omega) h10]
            · simp -implicitDefEqProofs only [ints, rows, Nat.reduceBEq, wkR, Nat.reduceEqDiff, ↓reduceIte, wrR, nodes, next64 (by omega : k < l.length - 1) (by omega)]
            · exact ⟨⟨_, rfl, .refl _⟩, rfl, ⟨_, rfl, .refl _⟩, rfl, trivial⟩
            · by_cases hjk : j = k
              · have h10 : occ (1 + k) l = 1 := by
                  have : ((occ (1 + k) l : Nat) : Int) = 1 := by simpa using h10
                  omega
                rw [hjk, Nat.add_comm]; exact h10
              · exact hocc j (by omega)
          · simp -implicitDefEqProofs only [go_sem, evR, ints, rows, rat, rats, nodes]
            have hall : ∀ j, j < l.length → j = 0 ∨ occ j l = 1 := fun j hj => by
              by_cases hj0 : j = 0
              · exact .inl hj0
              · right
                have := hocc (j - 1) (by omega)
                rwa [show j - 1 + 1 = j by omega] at this
            have hdep := impl_depthFrom_ok hnds (by omega) l.length 0 (by omega) (by omega) (by omega)
            simp only [treeT, nodes] at hdep
            refine CallW.pure hdep [] rfl Tryd.call56 ?_ (by first | trivial | simp [T.noSh, T.noShL, rat]) rfl ?_
            · simp -implicitDefEqProofs only [agR, Nat.reduceLeDiff, Nat.reduceSub, vaR, go_sem, ints, rows, rat, rats, ratsO, rtR, intsO, rowsO]
            simp -implicitDefEqProofs only [go_sem, evR, ints, rows, rat, rats]
            rw [isTreeB_fin hn hnds hall]
end Go.Ab

/- Contracts: valid trees, the reference's. -/
set_option linter.unusedSimpArgs false
set_option linter.unusedVariables false
namespace Go.Ab
open Go.Proofs

theorem bnT {b : Bool} (h : (!b) = true) : b = false := by cases b <;> simp_all
theorem bnF {b : Bool} (h : (!b) = false) : b = true := by cases b <;> simp_all
theorem spec_l20Node_ok {l : List Nd} {i : Nat} {x : Nd} (hx : l[i]? = some x) (hl : l.length ≤ 1000000) (hxc : x.ch.length ≤ 9223372036854775807) : Pure Tryd.prog 76 [treeT l, .i i] (.b (ndOK l.length i x)) := by
  have hil := (List.getElem?_eq_some_iff.1 hx).1
  rw [ndOK_spec]
  refine fun_spec_l20Node (by simp) ?_
  simp -implicitDefEqProofs only [go_sem, evR, ints, rows, rat, rats, c_spec_l20Node, treeT, nodes, nd_at hx]
  refine ⟨by omega, by rw [nd_len]; omega, by rw [nd_len]; omega, ?_⟩
  refine CallW.pure (spec_l01In_ok x.p 0 2) [] rfl Tryd.call61 ?_ (by first | trivial | simp [T.noSh, T.noShL, rat]) rfl ?_
  · simp -implicitDefEqProofs only [agR, Nat.reduceLeDiff, Nat.reduceSub, vaR, go_sem, ints, rows, rat, rats, ratsO, rtR, intsO, rowsO]
  simp -implicitDefEqProofs only [go_sem, evR, ints, rows, rat, rats]
  refine ⟨fun h1 => ?_, fun h1 => by rw [show decide (0 ≤ x.p ∧ x.p ≤ 2) = false from bnT h1]; rfl⟩
  rw [show decide (0 ≤ x.p ∧ x.p ≤ 2) = true from bnF h1]
  refine CallW.pure (spec_l01In_ok x.a 0 100) [] rfl Tryd.call61 ?_ (by first | trivial | simp [T.noSh, T.noShL, rat]) rfl ?_
  · simp -implicitDefEqProofs only [agR, Nat.reduceLeDiff, Nat.reduceSub, vaR, go_sem, ints, rows, rat, rats, ratsO, rtR, intsO, rowsO]
  simp -implicitDefEqProofs only [go_sem, evR, ints, rows, rat, rats]
  refine ⟨fun h2 => ?_, fun h2 => by rw [show decide (0 ≤ x.a ∧ x.a ≤ 100) = false from bnT h2]; simp⟩
  rw [show decide (0 ≤ x.a ∧ x.a ≤ 100) = true from bnF h2]
  refine CallW.pure (spec_l01In_ok x.b 0 100) [] rfl Tryd.call61 ?_ (by first | trivial | simp [T.noSh, T.noShL, rat]) rfl ?_
  · simp -implicitDefEqProofs only [agR, Nat.reduceLeDiff, Nat.reduceSub, vaR, go_sem, ints, rows, rat, rats, ratsO, rtR, intsO, rowsO]
  simp -implicitDefEqProofs only [go_sem, evR, ints, rows, rat, rats]
  refine ⟨fun h3 => ?_, fun h3 => by rw [show decide (0 ≤ x.b ∧ x.b ≤ 100) = false from bnT h3]; simp⟩
  rw [show decide (0 ≤ x.b ∧ x.b ≤ 100) = true from bnF h3]
  refine CallW.pure (spec_l01In_ok x.f (-1) 1) [] rfl Tryd.call61 ?_ (by first | trivial | simp [T.noSh, T.noShL, rat]) rfl ?_
  · simp -implicitDefEqProofs only [agR, Nat.reduceLeDiff, Nat.reduceSub, vaR, go_sem, ints, rows, rat, rats, ratsO, rtR, intsO, rowsO]
  simp -implicitDefEqProofs only [go_sem, evR, ints, rows, rat, rats]
  refine ⟨fun h4 => by rw [show decide (-1 ≤ x.f ∧ x.f ≤ 1) = false from bnT h4]; simp, fun h4 => ?_⟩
  rw [show decide (-1 ≤ x.f ∧ x.f ≤ 1) = true from bnF h4]
  refine ⟨fun h5 => ?_, fun h5 => ?_⟩
  · have h5 : x.p = 2 := by simpa using h5
    rw [if_pos h5]
    refine ⟨fun h6 => ?_, fun h6 => ?_⟩
    · have h6 : x.ch.length = 0 := by
        have : (x.ch.length : Int) = 0 := by simpa using h6
        omega
      rw [decide_eq_true h6]
      refine ⟨fun h7 => ?_, fun h7 => by rw [decide_eq_true (show 0 ≤ x.f by omega)]; rfl⟩
      rw [decide_eq_false (show ¬ 0 ≤ x.f by omega)]
      by_cases h8 : x.a = x.b
      · rw [decide_eq_true h8, h8]; simp
      · rw [decide_eq_false h8]; simp [h8]
    · have h6 : ¬ x.ch.length = 0 := by
        have : ¬ (x.ch.length : Int) = 0 := by simpa using h6
        omega
      rw [decide_eq_false h6]; rfl
  · have h5 : ¬ x.p = 2 := by simpa using h5
    rw [if_neg h5]
    refine ⟨fun h6 => ?_, fun h6 => ?_⟩
    · have h6 : x.f = -1 := by simpa using h6
      rw [decide_eq_true h6]
      refine CallW.pure (spec_l01In_ok x.ch.length 1 4) [] rfl Tryd.call61 ?_ (by first | trivial | simp [T.noSh, T.noShL, rat]) rfl ?_
      · simp -implicitDefEqProofs only [agR, Nat.reduceLeDiff, Nat.reduceSub, vaR, go_sem, ints, rows, rat, rats, ratsO, rtR, intsO, rowsO]
      simp -implicitDefEqProofs only [go_sem, evR, ints, rows, rat, rats]
      refine ⟨fun h7 => ?_, fun h7 => ?_⟩
      · have h7 : 1 ≤ x.ch.length ∧ x.ch.length ≤ 4 := by
          have := bnF h7
          simp only [decide_eq_true_eq] at this; omega
        rw [decide_eq_true h7]
        refine CallW.pure (spec_l01Rises_ok x.ch l.length (by omega) (by omega)) [] rfl Tryd.call83 ?_ (by first | trivial | simp [T.noSh, T.noShL, rat]) rfl ?_
        · simp -implicitDefEqProofs only [agR, Nat.reduceLeDiff, Nat.reduceSub, vaR, go_sem, ints, rows, rat, rats, ratsO, rtR, intsO, rowsO]
        simp -implicitDefEqProofs only [go_sem, evR, ints, rows, rat, rats]
        refine ⟨fun h8 => by rw [bnT h8]; rfl, fun h8 => ⟨by omega, by omega, fun c hc => ?_⟩⟩
        rw [bnF h8]
        have hhd : x.ch.headD 0 = c := by
          cases hch : x.ch with
          | nil => rw [hch] at hc; simp at hc
          | cons a as' => rw [hch] at hc; simpa using hc
        rw [hhd]; rfl
      · have h7 : ¬ (1 ≤ x.ch.length ∧ x.ch.length ≤ 4) := by
          have := bnT h7
          simp only [decide_eq_false_iff_not] at this; omega
        rw [decide_eq_false h7]; rfl
    · have h6 : ¬ x.f = -1 := by simpa using h6
      rw [decide_eq_false h6]; rfl

section
attribute [-go_sem] load1C
theorem spec_IsTree_ok (l : List Nd) (hl : l.length ≤ 9223372036854775807) (hcl : ∀ x ∈ l, x.ch.length ≤ 9223372036854775807) : Pure Tryd.prog 60 [treeT l] (.b (isTreeB l)) := by
  refine fun_spec_IsTree (by simp) ?_
  simp -implicitDefEqProofs only [go_sem, evR, ints, rows, rat, rats, c_spec_IsTree, treeT, nodes]
  refine CallW.pure (spec_l01In_ok l.length 1 60) [] rfl Tryd.call61 ?_ (by first | trivial | simp [T.noSh, T.noShL, rat]) rfl ?_
  · simp -implicitDefEqProofs only [agR, Nat.reduceLeDiff, Nat.reduceSub, vaR, go_sem, ints, rows, rat, rats, ratsO, rtR, intsO, rowsO]
  simp -implicitDefEqProofs only [go_sem, evR, ints, rows, rat, rats]
  refine ⟨fun h => ?_, fun h => ?_⟩
  · rw [isTreeB_len (by have := bnT h; simp at this; omega)]
  · have hn : 1 ≤ l.length ∧ l.length ≤ 60 := by
      have := bnF h
      simp only [decide_eq_true_eq] at this; omega
    refine ⟨by omega, by omega, ?_⟩
    refine SemC.loopR (σ := Nat) (fun i => St.of [(1, .own 1), (3, .t (.i l.length)), (4, .own 15), (5, .t (.i i))] [(1, .box [nodes l]), (15, .arr 1 ((cntV l l.length i 0).map T.i))]) (fun i => i ≤ l.length ∧ ∀ j x, j < i → l[j]? = some x → ndOK l.length j x = true) (fun i => l.length - i) 0 (Weak.of _ _ [some 1, some 15] (by simp) (by simp) ?_ ?_) ⟨by simp, fun j x hj => by omega⟩ fun i hI R hn' hr he => ?_
    · simp -implicitDefEqProofs only [ints, rows, Nat.reduceBEq, wkR, Nat.reduceEqDiff, ↓reduceIte, wrR, nodes]
    · exact ⟨⟨_, rfl, .refl _⟩, rfl, ⟨_, rfl, by rw [made_one, cntV_zero, List.map_replicate]; exact .refl _⟩, rfl, trivial⟩
    · obtain ⟨hi, hOK⟩ := hI
      simp -implicitDefEqProofs only [go_sem, evR, ints, rows, rat, rats, nodes]
      refine ⟨fun h => ?_, fun h => he _ _ ?_⟩
      · have hil : i < l.length := by omega
        obtain ⟨x, hx⟩ : ∃ x, l[i]? = some x := ⟨_, List.getElem?_eq_getElem hil⟩
        have hxc := hcl x (List.mem_of_getElem? hx)
        have hnode := spec_l20Node_ok hx (by omega) hxc
        simp only [treeT, nodes] at hnode
        refine CallW.pure hnode [] rfl Tryd.call76 ?_ (by first | trivial | simp [T.noSh, T.noShL, rat]) rfl ?_
        · simp -implicitDefEqProofs only [agR, Nat.reduceLeDiff, Nat.reduceSub, vaR, go_sem, ints, rows, rat, rats, ratsO, rtR, intsO, rowsO]
        simp -implicitDefEqProofs only [go_sem, evR, ints, rows, rat, rats]
        refine ⟨fun h1 => hr _ ?_, fun h1 => ?_⟩
        · simp -implicitDefEqProofs only [go_sem, evR, ints, rows, rat, rats]
          rw [isTreeB_nd hx (bnT h1)]
        · have hok := bnF h1
          have hch := ndOK_child hok
          have hcl4 := (ndOK_fields hok).2.2.2.2.2
          have hd : l.getD i nd0 = x := by rw [List.getD_eq_getElem?_getD, hx]; rfl
          refine SemC.loopR (σ := Nat) (fun k => St.of [(1, .own 1), (3, .t (.i l.length)), (4, .own 15), (5, .t (.i i)), (6, .t (.i k))] [(1, .box [nodes l]), (15, .arr 1 ((cntV l l.length i k).map T.i))]) (fun k => k ≤ x.ch.length) (fun k => x.ch.length - k) 0 (Weak.of _ _ [some 1, some 15] (by simp) (by simp) ?_ ?_) (by simp) fun k hk R2 hn2 hr2 he2 => ?_
          · simp -implicitDefEqProofs only [ints, rows, Nat.reduceBEq, wkR, Nat.reduceEqDiff, ↓reduceIte, wrR, nodes]
          · exact ⟨⟨_, rfl, .refl _⟩, rfl, ⟨_, rfl, .refl _⟩, rfl, trivial⟩
          · have hcl' := cntV_length l l.length i k
            rcases Nat.lt_or_ge k x.ch.length with h9 | h9
            · obtain ⟨c, hc⟩ : ∃ c, x.ch[k]? = some c := ⟨_, List.getElem?_eq_getElem h9⟩
              have hcb := hch c (List.mem_of_getElem? hc)
              obtain ⟨cn, rfl⟩ : ∃ cn : Nat, c = (cn : Int) := ⟨c.toNat, by omega⟩
              have hg := cntV_get l (n := l.length) (i := i) (k := k) (c := cn) (by omega)
              simp -implicitDefEqProofs only [go_sem, evR, ints, rows, rat, rats, nodes, nd_get4 hx, decide_eq_true (show (k : Int) < (x.ch.length : Int) by omega), hc, hg]
              have hset := cntV_set (l := l) (n := l.length) (i := i) (k := k) (c := cn) (by omega) (by rw [hd]; exact hc)
              refine ⟨by omega, by rw [nd_len]; omega, by rw [nd_len]; omega, by omega, by rw [nd_len]; omega, by rw [nd_len]; omega, by omega, by omega, by omega, by omega, by omega, by omega, by omega, by omega, by omega, hn2 _ (k + 1) (Weak.of _ _ [some 1, some 15] (by simp) (by simp) ?_ ?_) (by omega) (by omega)⟩
              · simp -implicitDefEqProofs only [ints, rows, Nat.reduceBEq, wkR, Nat.reduceEqDiff, ↓reduceIte, wrR, nodes, next64 (by omega : k < x.ch.length) (by omega)]
              · refine ⟨⟨_, rfl, .refl _⟩, rfl, ⟨_, rfl, ?_⟩, rfl, trivial⟩
                have hocc := occ_le' cn (l.take i) fun y hy => by
                  obtain ⟨j, hj, rfl⟩ := List.mem_iff_getElem.1 hy
                  rw [List.length_take] at hj
                  rw [List.getElem_take]
                  exact (ndOK_fields (hOK j _ (by omega) (List.getElem?_eq_getElem (by omega)))).2.2.2.2.2
                have hlt : (l.take i).length ≤ 60 := by rw [List.length_take]; omega
                have hcnt := List.count_le_length (a := (cn : Int)) (l := (l.getD i nd0).ch.take k)
                have hctl : ((l.getD i nd0).ch.take k).length ≤ 4 := by rw [List.length_take, hd]; omega
                rw [wrap64 (n := (occ cn (l.take i) : Int) + (((l.getD i nd0).ch.take k).count (cn : Int) : Nat) + 1) (by omega) (by omega), ← hset, List.map_set]; exact .refl _
            · simp -implicitDefEqProofs only [go_sem, evR, ints, rows, rat, rats, nodes, nd_get4 hx, decide_eq_false (show ¬ (k : Int) < (x.ch.length : Int) by omega)]
              refine ⟨by omega, by rw [nd_len]; omega, by rw [nd_len]; omega, he2 _ _ ?_⟩
              simp -implicitDefEqProofs only [go_sem, evR, ints, rows, rat, rats]
              have hke : k = x.ch.length := by omega
              refine hn' _ (i + 1) (Weak.of _ _ [some 1, some 15] (by simp) (by simp) ?_ ?_) ⟨by omega, fun j y hj hy => ?_⟩ (by omega)
              · simp -implicitDefEqProofs only [ints, rows, Nat.reduceBEq, wkR, Nat.reduceEqDiff, ↓reduceIte, wrR, nodes, next64 hil (by omega)]
              · exact ⟨⟨_, rfl, .refl _⟩, rfl, ⟨_, rfl, by rw [hke, cntV_next hx (fun hp => ((ndOK_fields hok).2.2.2.1 hp).1)]; exact .refl _⟩, rfl, trivial⟩
              · by_cases hji : j = i
                · subst hji; rw [hx] at hy; cases hy; exact hok
                · exact hOK j y (by omega) hy
      · simp -implicitDefEqProofs only [go_sem, evR, ints, rows, rat, rats, nodes]
        have hie : i = l.length := by omega
        have hnds : ndsOK l := fun j y hy => hOK j y (by have := (List.getElem?_eq_some_iff.1 hy).1; omega) hy
        refine SemC.loopR (σ := Nat) (fun k => St.of [(1, .own 1), (3, .t (.i l.length)), (4, .own 15), (7, .t (.i k))] [(1, .box [nodes l]), (15, .arr 1 ((cntV l l.length l.length 0).map T.i))]) (fun k => 1 ≤ k ∧ k ≤ l.length ∧ ∀ j, 1 ≤ j → j < k → occ j l = 1) (fun k => l.length - k) 1 (Weak.of _ _ [some 1, some 15] (by simp) (by simp) ?_ ?_) ⟨by omega, by omega, fun j h1 h2 => by omega⟩ fun k hI R2 hn2 hr2 he2 => ?_
        · simp -implicitDefEqProofs only [ints, rows, Nat.reduceBEq, wkR, Nat.reduceEqDiff, ↓reduceIte, wrR, nodes]
        · exact ⟨⟨_, rfl, .refl _⟩, rfl, ⟨_, rfl, by rw [hie]; exact .refl _⟩, rfl, trivial⟩
        · obtain ⟨hk1, hk, hocc⟩ := hI
          rcases Nat.lt_or_ge k l.length with h9 | h9
          · have hg := cntV_all l l.length k h9
            have hcl' := cntV_length l l.length l.length 0
            simp -implicitDefEqProofs only [go_sem, evR, ints, rows, rat, rats, nodes, hg, decide_eq_true (show (k : Int) < (l.length : Int) by omega)]
            refine ⟨by omega, by omega, by omega, fun h10 => hr2 _ ?_, fun h10 => hn2 _ (k + 1) (Weak.of _ _ [some 1, some 15] (by simp) (by simp) ?_ ?_) ⟨by omega, by omega, fun j h1 h2 => ?_⟩ (by omega)⟩
            · simp -implicitDefEqProofs only [go_sem, evR, ints, rows, rat, rats]
              have h10 : ¬ occ k l = 1 := by simp at h10; omega
              rw [isTreeB_occ h9 (by omega) h10]
            · simp -implicitDefEqProofs only [ints, rows, Nat.reduceBEq, wkR, Nat.reduceEqDiff, ↓reduceIte, wrR, nodes, next64 h9 (by omega)]
            · exact ⟨⟨_, rfl, .refl _⟩, rfl, ⟨_, rfl, .refl _⟩, rfl, trivial⟩
            · by_cases hjk : j = k
              · have h10 : occ k l = 1 := by
                  have : ((occ k l : Nat) : Int) = 1 := by simpa using h10
                  omega
                rw [hjk]; exact h10
              · exact hocc j h1 (by omega)
          · simp -implicitDefEqProofs only [go_sem, evR, ints, rows, rat, rats, nodes, decide_eq_false (show ¬ (k : Int) < (l.length : Int) by omega)]
            refine he2 _ _ ?_
            simp -implicitDefEqProofs only [go_sem, evR, ints, rows, rat, rats]
            have hall : ∀ j, j < l.length → j = 0 ∨ occ j l = 1 := fun j hj => by
              by_cases hj0 : j = 0
              · exact .inl hj0
              · exact .inr (hocc j (by omega) (by omega))
            have hdep := spec_l20Depth_ok hnds (by omega) l.length 0 (by omega) (by omega) (by omega)
            simp only [treeT, nodes] at hdep
            refine CallW.pure hdep [] rfl Tryd.call40 ?_ (by first | trivial | simp [T.noSh, T.noShL, rat]) rfl ?_
            · simp -implicitDefEqProofs only [agR, Nat.reduceLeDiff, Nat.reduceSub, vaR, go_sem, ints, rows, rat, rats, ratsO, rtR, intsO, rowsO]
            simp -implicitDefEqProofs only [go_sem, evR, ints, rows, rat, rats]
            rw [isTreeB_fin hn hnds hall]
end
end Go.Ab

/- Contracts: sums. -/
set_option linter.unusedSimpArgs false
set_option linter.unusedVariables false
namespace Go.Ab
open Go.Proofs

def smallL (l : List Int) : Prop := l.length ≤ 1000 ∧ ∀ x ∈ l, -1000000000000 ≤ x ∧ x ≤ 1000000000000
theorem smallL_sum {l : List Int} (h : smallL l) (k : Nat) : -1000000000000000 ≤ (l.take k).sum ∧ (l.take k).sum ≤ 1000000000000000 := by
  obtain ⟨h1, h2⟩ := h
  have key : ∀ (l : List Int), (∀ x ∈ l, -1000000000000 ≤ x ∧ x ≤ 1000000000000) → -(1000000000000 * (l.length : Int)) ≤ l.sum ∧ l.sum ≤ 1000000000000 * (l.length : Int) := by
    intro l
    induction l with
    | nil => intro _; simp
    | cons a l ih =>
      intro h
      have := ih fun x hx => h x (List.mem_cons_of_mem _ hx)
      have := h a (by simp)
      simp only [List.sum_cons, List.length_cons]
      omega
  have := key (l.take k) fun x hx => h2 x (List.mem_of_mem_take hx)
  have hl : (l.take k).length ≤ 1000 := by rw [List.length_take]; omega
  omega
theorem sum_snoc (l : List Int) (x : Int) : (l ++ [x]).sum = l.sum + x := by simp
theorem impl_sumOf_ok (l : List Int) (h : smallL l) : Pure Tryd.prog 68 [ints l] (.i l.sum) := by
  have hl := h.1
  refine fun_impl_sumOf (by simp) ?_
  simp -implicitDefEqProofs only [go_sem, evR, ints, rows, rat, rats, c_impl_sumOf]
  refine SemC.loopR (σ := Nat) (fun i => St.of [(3, .t (.i (l.take i).sum)), (6, .t (ints l)), (7, .t (.i l.length)), (8, .t (.i i))] []) (fun i => i ≤ l.length) (fun i => l.length - i) 0 (Weak.of _ [] [] (by simp) (by simp) ?_ trivial) (by omega) fun i hi R hn hr he => ?_
  · simp -implicitDefEqProofs only [ints, rows, Nat.reduceBEq, wkR, Nat.reduceEqDiff, ↓reduceIte, wrR, List.take_zero, List.sum_nil]
  · simp -implicitDefEqProofs only [go_sem, evR, ints, rows, rat, rats]
    refine ⟨fun h1 => ⟨by omega, by omega, by omega, fun x hx => ?_⟩, fun h1 => he _ _ ?_⟩
    · have e := sum_snoc (l.take i) x
      rw [← take_snoc hx] at e
      have hb := smallL_sum h (i + 1)
      refine hn _ (i + 1) (Weak.of _ [] [] (by simp) (by simp) ?_ trivial) (by omega) (by omega)
      simp -implicitDefEqProofs only [ints, rows, Nat.reduceBEq, wkR, Nat.reduceEqDiff, ↓reduceIte, wrR, next64 (by omega : i < l.length) (by omega), ← e, wrap64 (n := (l.take (i + 1)).sum) (by omega) (by omega)]
    · simp -implicitDefEqProofs only [go_sem, evR, ints, rows, rat, rats]
      rw [List.take_of_length_le (by omega)]
theorem spec_l01Sum_ok (l : List Int) (h : smallL l) : Pure Tryd.prog 64 [ints l] (.i l.sum) := by
  have hl := h.1
  refine fun_spec_l01Sum (by simp) ?_
  simp -implicitDefEqProofs only [go_sem, evR, ints, rows, rat, rats, c_spec_l01Sum]
  refine SemC.loopR (σ := Nat) (fun i => St.of [(0, .t (ints l)), (3, .t (.i (l.take i).sum)), (4, .t (.i i))] []) (fun i => i ≤ l.length) (fun i => l.length - i) 0 (Weak.of _ [] [] (by simp) (by simp) ?_ trivial) (by omega) fun i hi R hn hr he => ?_
  · simp -implicitDefEqProofs only [ints, rows, Nat.reduceBEq, wkR, Nat.reduceEqDiff, ↓reduceIte, wrR, List.take_zero, List.sum_nil]
  · simp -implicitDefEqProofs only [go_sem, evR, ints, rows, rat, rats]
    refine ⟨fun h1 => ⟨by omega, by omega, by omega, fun x hx => ?_⟩, fun h1 => he _ _ ?_⟩
    · have e := sum_snoc (l.take i) x
      rw [← take_snoc hx] at e
      have hb := smallL_sum h (i + 1)
      refine hn _ (i + 1) (Weak.of _ [] [] (by simp) (by simp) ?_ trivial) (by omega) (by omega)
      simp -implicitDefEqProofs only [ints, rows, Nat.reduceBEq, wkR, Nat.reduceEqDiff, ↓reduceIte, wrR, next64 (by omega : i < l.length) (by omega), ← e, wrap64 (n := (l.take (i + 1)).sum) (by omega) (by omega)]
    · simp -implicitDefEqProofs only [go_sem, evR, ints, rows, rat, rats]
      rw [List.take_of_length_le (by omega)]
end Go.Ab

/- Contracts: valid games. -/
set_option linter.unusedSimpArgs false
set_option linter.unusedVariables false
namespace Go.Ab
open Go.Proofs

theorem sumI_eq : ∀ l : List Int, sumI l = l.sum
  | [] => rfl
  | x :: l => by rw [sumI, List.sum_cons, sumI_eq l]
theorem totW_snoc (w : List (List Int)) (r : List Int) : totW (w ++ [r]) = totW w + r.sum := by
  simp only [totW, List.map_append, List.map_cons, List.map_nil]
  rw [sumI_snoc, sumI_eq r]
theorem totW_nil : totW [] = 0 := rfl
def smallW (w : List (List Int)) : Prop := w.length ≤ 6 ∧ ∀ r ∈ w, r.length ≤ 6 ∧ ∀ x ∈ r, 0 ≤ x ∧ x ≤ 9
theorem smallW_row {w : List (List Int)} (h : smallW w) {r : List Int} (hr : r ∈ w) : smallL r := ⟨by have := (h.2 r hr).1; omega, fun x hx => by have := (h.2 r hr).2 x hx; omega⟩
theorem totW_bound {w : List (List Int)} (h : smallW w) (k : Nat) : 0 ≤ totW (w.take k) ∧ totW (w.take k) ≤ 324 := by
  have h1 : ∀ x ∈ (w.take k).map sumI, 0 ≤ x := fun x hx => by
    obtain ⟨r, hr, rfl⟩ := List.mem_map.1 hx
    exact sumI_nonneg fun y hy => ((h.2 r (List.mem_of_mem_take hr)).2 y hy).1
  have h2 : ∀ x ∈ (w.take k).map sumI, x ≤ 54 := fun x hx => by
    obtain ⟨r, hr, rfl⟩ := List.mem_map.1 hx
    have := sumI_le (b := 9) fun y hy => ((h.2 r (List.mem_of_mem_take hr)).2 y hy).2
    have := (h.2 r (List.mem_of_mem_take hr)).1
    omega
  refine ⟨sumI_nonneg h1, ?_⟩
  have := sumI_le h2
  rw [List.length_map, List.length_take] at this
  have := h.1
  unfold totW; omega
theorem smallW_of {w : List (List Int)} {k : Nat} (h : matK w k 0 9 = true) (hk : k ≤ 6) : smallW w := by
  obtain ⟨h1, h2⟩ := matK_spec h
  exact ⟨by omega, fun r hr => ⟨by have := (h2 r hr).1; omega, fun x hx => by have := (h2 r hr).2 x hx; omega⟩⟩

theorem next63 {i n : Nat} (h : i < n) (hn : n ≤ 9223372036854775807) : IntKind.i64.wrap ((i : Int) + 1) = ((i + 1 : Nat) : Int) := by
  rw [wrap64 (by omega) (by omega)]; omega
section
attribute [-go_sem] load1C
theorem impl_totalWeight_ok (g : Gm) (h : smallW g.w) : Pure Tryd.prog 46 [gameT g] (.i (totW g.w)) := by
  have hl := h.1
  refine fun_impl_totalWeight (by simp) ?_
  simp -implicitDefEqProofs only [go_sem, evR, ints, rows, rat, rats, c_impl_totalWeight, gameT, nodes]
  refine SemC.loopR (σ := Nat) (fun i => St.of [(3, .t (.i (totW (g.w.take i)))), (7, .t (rows g.w)), (8, .t (.i g.w.length)), (9, .t (.i i))] []) (fun i => i ≤ g.w.length) (fun i => g.w.length - i) 0 (Weak.of _ [] [] (by simp) (by simp) ?_ trivial) (by omega) fun i hi R hn hr he => ?_
  · simp -implicitDefEqProofs only [ints, rows, Nat.reduceBEq, wkR, Nat.reduceEqDiff, ↓reduceIte, wrR, List.take_zero, totW_nil]
  · rcases Nat.lt_or_ge i g.w.length with h9 | h9
    · obtain ⟨r, hx⟩ : ∃ r, g.w[i]? = some r := ⟨_, List.getElem?_eq_getElem h9⟩
      simp -implicitDefEqProofs only [go_sem, evR, ints, rows, rat, rats, hx, decide_eq_true (show (i : Int) < (g.w.length : Int) by omega)]
      refine ⟨by omega, by omega, by omega, ?_⟩
      refine CallW.pure (impl_sumOf_ok r (smallW_row h (List.mem_of_getElem? hx))) [] rfl Tryd.call68 ?_ (by first | trivial | simp [T.noSh, T.noShL, rat]) rfl ?_
      · simp -implicitDefEqProofs only [agR, Nat.reduceLeDiff, Nat.reduceSub, vaR, go_sem, ints, rows, rat, rats, ratsO, rtR, intsO, rowsO]
      simp -implicitDefEqProofs only [go_sem, evR, ints, rows, rat, rats]
      have e := totW_snoc (g.w.take i) r
      rw [← take_snoc hx] at e
      have hb := totW_bound h (i + 1)
      refine hn _ (i + 1) (Weak.of _ [] [] (by simp) (by simp) ?_ trivial) (by omega) (by omega)
      simp -implicitDefEqProofs only [ints, rows, Nat.reduceBEq, wkR, Nat.reduceEqDiff, ↓reduceIte, wrR, next64 h9 (by omega), ← e, wrap64 (n := totW (g.w.take (i + 1))) (by omega) (by omega)]
    · simp -implicitDefEqProofs only [go_sem, evR, ints, rows, rat, rats, decide_eq_false (show ¬ (i : Int) < (g.w.length : Int) by omega)]
      refine he _ _ ?_
      simp -implicitDefEqProofs only [go_sem, evR, ints, rows, rat, rats]
      rw [List.take_of_length_le (by omega)]
theorem spec_l21Total_ok (g : Gm) (h : smallW g.w) : Pure Tryd.prog 38 [gameT g] (.i (totW g.w)) := by
  have hl := h.1
  refine fun_spec_l21Total (by simp) ?_
  simp -implicitDefEqProofs only [go_sem, evR, ints, rows, rat, rats, c_spec_l21Total, gameT, nodes]
  refine SemC.loopR (σ := Nat) (fun i => St.of [(1, .own 1), (3, .t (.i (totW (g.w.take i)))), (4, .t (.i i))] [(1, .box [nodes g.nd, rows g.w, rows g.v])]) (fun i => i ≤ g.w.length) (fun i => g.w.length - i) 0 (Weak.of _ _ [some 1] (by simp) (by simp) ?_ ?_) (by omega) fun i hi R hn hr he => ?_
  · simp -implicitDefEqProofs only [ints, rows, Nat.reduceBEq, wkR, Nat.reduceEqDiff, ↓reduceIte, wrR, List.take_zero, totW_nil, nodes]
  · exact ⟨⟨_, rfl, .refl _⟩, rfl, trivial⟩
  · rcases Nat.lt_or_ge i g.w.length with h9 | h9
    · obtain ⟨r, hx⟩ : ∃ r, g.w[i]? = some r := ⟨_, List.getElem?_eq_getElem h9⟩
      simp -implicitDefEqProofs only [go_sem, evR, ints, rows, rat, rats, nodes, hx, decide_eq_true (show (i : Int) < (g.w.length : Int) by omega)]
      refine ⟨by omega, by omega, by omega, ?_⟩
      refine CallW.pure (spec_l01Sum_ok r (smallW_row h (List.mem_of_getElem? hx))) [] rfl Tryd.call64 ?_ (by first | trivial | simp [T.noSh, T.noShL, rat]) rfl ?_
      · simp -implicitDefEqProofs only [agR, Nat.reduceLeDiff, Nat.reduceSub, vaR, go_sem, ints, rows, rat, rats, ratsO, rtR, intsO, rowsO]
      simp -implicitDefEqProofs only [go_sem, evR, ints, rows, rat, rats]
      have e := totW_snoc (g.w.take i) r
      rw [← take_snoc hx] at e
      have hb := totW_bound h (i + 1)
      refine hn _ (i + 1) (Weak.of _ _ [some 1] (by simp) (by simp) ?_ ?_) (by omega) (by omega)
      · simp -implicitDefEqProofs only [ints, rows, Nat.reduceBEq, wkR, Nat.reduceEqDiff, ↓reduceIte, wrR, nodes, next64 h9 (by omega), ← e, wrap64 (n := totW (g.w.take (i + 1))) (by omega) (by omega)]
      · exact ⟨⟨_, rfl, .refl _⟩, rfl, trivial⟩
    · simp -implicitDefEqProofs only [go_sem, evR, ints, rows, rat, rats, nodes, decide_eq_false (show ¬ (i : Int) < (g.w.length : Int) by omega)]
      refine he _ _ ?_
      simp -implicitDefEqProofs only [go_sem, evR, ints, rows, rat, rats]
      rw [List.take_of_length_le (by omega)]
theorem matK_iff {m : List (List Int)} {k : Nat} {lo hi : Int} : matK m k lo hi = true ↔ m.length = k ∧ ∀ r ∈ m, r.length = k ∧ ∀ x ∈ r, lo ≤ x ∧ x ≤ hi := by
  simp only [matK, Bool.and_eq_true, decide_eq_true_eq, List.all_eq_true]
theorem matK_bad {m : List (List Int)} {k : Nat} {lo hi : Int} (h : ¬ (m.length = k ∧ ∀ r ∈ m, r.length = k ∧ ∀ x ∈ r, lo ≤ x ∧ x ≤ hi)) : matK m k lo hi = false := by
  cases hc : matK m k lo hi with
  | false => rfl
  | true => exact absurd (matK_iff.1 hc) h
theorem spec_l21Matrix_ok (m : List (List Int)) (k : Nat) (lo hi : Int) (hm : m.length ≤ 9223372036854775807) (hk : k ≤ 6) : Pure Tryd.prog 62 [rows m, .i k, .i lo, .i hi] (.b (matK m k lo hi)) := by
  refine fun_spec_l21Matrix (by simp) ?_
  simp -implicitDefEqProofs only [go_sem, evR, ints, rows, rat, rats, c_spec_l21Matrix]
  refine SemC.loopR (σ := Nat) (fun i => St.of [(0, .t (rows m)), (1, .t (.i k)), (2, .t (.i lo)), (3, .t (.i hi)), (9, .t (.i i))] []) (fun i => i ≤ m.length ∧ ∀ j r, j < i → m[j]? = some r → r.length = k ∧ ∀ x ∈ r, lo ≤ x ∧ x ≤ hi) (fun i => m.length - i) 0 (Weak.of _ [] [] (by simp) (by simp) ?_ trivial) ⟨by omega, fun j r hj => by omega⟩ fun i hI R hn hr he => ?_
  · simp -implicitDefEqProofs only [ints, rows, Nat.reduceBEq, wkR, Nat.reduceEqDiff, ↓reduceIte, wrR]
  · obtain ⟨hi', hrows⟩ := hI
    rcases Nat.lt_or_ge i m.length with h9 | h9
    · obtain ⟨r, hx⟩ : ∃ r, m[i]? = some r := ⟨_, List.getElem?_eq_getElem h9⟩
      simp -implicitDefEqProofs only [go_sem, evR, ints, rows, rat, rats, hx, decide_eq_true (show (i : Int) < (m.length : Int) by omega)]
      refine ⟨by omega, by omega, by omega, fun h1 => hr _ ?_, fun h1 => ?_⟩
      · simp -implicitDefEqProofs only [go_sem, evR, ints, rows, rat, rats]
        rw [matK_bad fun h => by have := (h.2 r (List.mem_of_getElem? hx)).1; simp at h1; omega]
      · have h1 : r.length = k := by simp at h1; omega
        refine SemC.loopR (σ := Nat) (fun j => St.of [(0, .t (rows m)), (1, .t (.i k)), (2, .t (.i lo)), (3, .t (.i hi)), (9, .t (.i i)), (10, .t (.i j))] []) (fun j => j ≤ k ∧ ∀ t x, t < j → r[t]? = some x → lo ≤ x ∧ x ≤ hi) (fun j => k - j) 0 (Weak.of _ [] [] (by simp) (by simp) ?_ trivial) ⟨by omega, fun j x hj => by omega⟩ fun j hJ R2 hn2 hr2 he2 => ?_
        · simp -implicitDefEqProofs only [ints, rows, Nat.reduceBEq, wkR, Nat.reduceEqDiff, ↓reduceIte, wrR]
        · obtain ⟨hj, hels⟩ := hJ
          rcases Nat.lt_or_ge j k with h8 | h8
          · obtain ⟨x, hy⟩ : ∃ x, r[j]? = some x := ⟨_, List.getElem?_eq_getElem (by omega)⟩
            simp -implicitDefEqProofs only [go_sem, evR, ints, rows, rat, rats, hx, hy, decide_eq_true (show (j : Int) < (k : Int) by omega)]
            refine ⟨by omega, by omega, by omega, by omega, by omega, by omega, ?_⟩
            refine CallW.pure (spec_l01In_ok x lo hi) [] rfl Tryd.call61 ?_ (by first | trivial | simp [T.noSh, T.noShL, rat]) rfl ?_
            · simp -implicitDefEqProofs only [agR, Nat.reduceLeDiff, Nat.reduceSub, vaR, go_sem, ints, rows, rat, rats, ratsO, rtR, intsO, rowsO]
            simp -implicitDefEqProofs only [go_sem, evR, ints, rows, rat, rats]
            refine ⟨fun h2 => hr2 _ ?_, fun h2 => hn2 _ (j + 1) (Weak.of _ [] [] (by simp) (by simp) ?_ trivial) ⟨by omega, fun t y ht hyt => ?_⟩ (by omega)⟩
            · simp -implicitDefEqProofs only [go_sem, evR, ints, rows, rat, rats]
              refine hr _ ?_
              simp -implicitDefEqProofs only [go_sem, evR, ints, rows, rat, rats]
              rw [matK_bad fun h => by have := (h.2 r (List.mem_of_getElem? hx)).2 x (List.mem_of_getElem? hy); have := bnT h2; simp at this; omega]
            · simp -implicitDefEqProofs only [ints, rows, Nat.reduceBEq, wkR, Nat.reduceEqDiff, ↓reduceIte, wrR, next64 h8 (by omega)]
            · by_cases htj : t = j
              · subst htj; rw [hy] at hyt; cases hyt
                have := bnF h2
                simpa using this
              · exact hels t y (by omega) hyt
          · simp -implicitDefEqProofs only [go_sem, evR, ints, rows, rat, rats, decide_eq_false (show ¬ (j : Int) < (k : Int) by omega)]
            refine he2 _ _ ?_
            simp -implicitDefEqProofs only [go_sem, evR, ints, rows, rat, rats]
            refine hn _ (i + 1) (Weak.of _ [] [] (by simp) (by simp) ?_ trivial) ⟨by omega, fun t y ht hyt => ?_⟩ (by omega)
            · simp -implicitDefEqProofs only [ints, rows, Nat.reduceBEq, wkR, Nat.reduceEqDiff, ↓reduceIte, wrR, next63 h9 hm]
            · by_cases htj : t = i
              · subst htj; rw [hx] at hyt; cases hyt
                refine ⟨h1, fun z hz => ?_⟩
                obtain ⟨u, hu, rfl⟩ := List.mem_iff_getElem.1 hz
                exact hels u _ (by omega) (List.getElem?_eq_getElem hu)
              · exact hrows t y (by omega) hyt
    · simp -implicitDefEqProofs only [go_sem, evR, ints, rows, rat, rats, decide_eq_false (show ¬ (i : Int) < (m.length : Int) by omega)]
      refine he _ _ ?_
      simp -implicitDefEqProofs only [go_sem, evR, ints, rows, rat, rats]
      have hall : ∀ r ∈ m, r.length = k ∧ ∀ x ∈ r, lo ≤ x ∧ x ≤ hi := fun r hr => by
        obtain ⟨u, hu, rfl⟩ := List.mem_iff_getElem.1 hr
        exact hrows u _ (by omega) (List.getElem?_eq_getElem hu)
      by_cases hmk : m.length = k
      · rw [matK_iff.2 ⟨hmk, hall⟩, hmk]; simp [T.b]
      · rw [matK_bad fun h => hmk h.1]
        have e : ((m.length : Int) == (k : Int)) = false := by simp; omega
        rw [e]
theorem isGameB_tree {g : Gm} (h : isTreeB g.nd = false) : isGameB g = false := by rw [isGameB, h]; rfl
theorem spec_IsGame_ok (g : Gm) (hg : gameL g) : Pure Tryd.prog 33 [gameT g] (.b (isGameB g)) := by
  obtain ⟨hg1, hg2, hg3, hg4⟩ := hg
  have ht := spec_IsTree_ok g.nd hg1 hg2
  simp only [treeT, nodes] at ht
  refine fun_spec_IsGame (by simp) ?_
  simp -implicitDefEqProofs only [go_sem, evR, ints, rows, rat, rats, c_spec_IsGame, gameT, nodes]
  refine CallW.pure ht [] rfl Tryd.call60 ?_ (by first | trivial | simp [T.noSh, T.noShL, rat]) rfl ?_
  · simp -implicitDefEqProofs only [agR, Nat.reduceLeDiff, Nat.reduceSub, vaR, go_sem, ints, rows, rat, rats, ratsO, rtR, intsO, rowsO]
  simp -implicitDefEqProofs only [go_sem, evR, ints, rows, rat, rats]
  refine ⟨fun h1 => ?_, fun h1 => by rw [isGameB_tree (by simpa using h1)]⟩
  have h1 : isTreeB g.nd = true := by simpa using h1
  refine CallW.pure (spec_l01In_ok g.w.length 1 6) [] rfl Tryd.call61 ?_ (by first | trivial | simp [T.noSh, T.noShL, rat]) rfl ?_
  · simp -implicitDefEqProofs only [agR, Nat.reduceLeDiff, Nat.reduceSub, vaR, go_sem, ints, rows, rat, rats, ratsO, rtR, intsO, rowsO]
  simp -implicitDefEqProofs only [go_sem, evR, ints, rows, rat, rats]
  refine ⟨fun h2 h2' => ?_, fun h2 => ?_⟩
  rotate_left
  · have h2 : ¬ (1 ≤ g.w.length ∧ g.w.length ≤ 6) := by omega
    rw [isGameB, h1, decide_eq_false h2]; rfl
  have h2 : 1 ≤ g.w.length ∧ g.w.length ≤ 6 := by omega
  have hm1 := spec_l21Matrix_ok g.w g.w.length 0 9 hg3.1 h2.2
  have hm2 := spec_l21Matrix_ok g.v g.w.length (-1) 1 hg4.1 h2.2
  simp only [rows] at hm1 hm2
  refine CallW.pure hm1 [] rfl Tryd.call62 ?_ (by first | trivial | simp [T.noSh, T.noShL, rat]) rfl ?_
  · simp -implicitDefEqProofs only [agR, Nat.reduceLeDiff, Nat.reduceSub, vaR, go_sem, ints, rows, rat, rats, ratsO, rtR, intsO, rowsO]
  simp -implicitDefEqProofs only [go_sem, evR, ints, rows, rat, rats]
  refine ⟨fun h3 => ?_, fun h3 => ?_⟩
  rotate_left
  · have h3 : matK g.w g.w.length 0 9 = false := by simpa using h3
    rw [isGameB, h3]; simp
  have h3 : matK g.w g.w.length 0 9 = true := by simpa using h3
  refine CallW.pure hm2 [] rfl Tryd.call62 ?_ (by first | trivial | simp [T.noSh, T.noShL, rat]) rfl ?_
  · simp -implicitDefEqProofs only [agR, Nat.reduceLeDiff, Nat.reduceSub, vaR, go_sem, ints, rows, rat, rats, ratsO, rtR, intsO, rowsO]
  simp -implicitDefEqProofs only [go_sem, evR, ints, rows, rat, rats]
  refine ⟨fun h4 => ?_, fun h4 => ?_⟩
  rotate_left
  · have h4 : matK g.v g.w.length (-1) 1 = false := by simpa using h4
    rw [isGameB, h4]; simp
  have h4 : matK g.v g.w.length (-1) 1 = true := by simpa using h4
  have hw := spec_l21Total_ok g (smallW_of h3 h2.2)
  simp only [gameT, nodes, rows] at hw
  refine CallW.pure hw [] rfl Tryd.call38 ?_ (by first | trivial | simp [T.noSh, T.noShL, rat]) rfl ?_
  · simp -implicitDefEqProofs only [agR, Nat.reduceLeDiff, Nat.reduceSub, vaR, go_sem, ints, rows, rat, rats, ratsO, rtR, intsO, rowsO]
  simp -implicitDefEqProofs only [go_sem, evR, ints, rows, rat, rats]
  rw [isGameB, h1, decide_eq_true h2, h3, h4]; rfl
end
end Go.Ab

/- Contracts: valid games, the program's. -/
set_option linter.unusedSimpArgs false
set_option linter.unusedVariables false
namespace Go.Ab
open Go.Proofs

section
attribute [-go_sem] load1C
def rowK (k : Nat) (lo hi : Int) (r : List Int) : Prop := r.length = k ∧ (r.all fun x => decide (lo ≤ x ∧ x ≤ hi)) = true
theorem matK_rows {m : List (List Int)} {k : Nat} {lo hi : Int} (hm : m.length = k) (h : ∀ i r, i < k → m[i]? = some r → rowK k lo hi r) : matK m k lo hi = true := by
  refine matK_iff.2 ⟨hm, fun r hr => ?_⟩
  obtain ⟨u, hu, rfl⟩ := List.mem_iff_getElem.1 hr
  obtain ⟨h1, h2⟩ := h u _ (by omega) (List.getElem?_eq_getElem hu)
  refine ⟨h1, fun x hx => ?_⟩
  rw [List.all_eq_true] at h2
  simpa using h2 x hx
theorem matK_row {m : List (List Int)} {k : Nat} {lo hi : Int} (h : matK m k lo hi = true) {i : Nat} {r : List Int} (hr : m[i]? = some r) : rowK k lo hi r := by
  obtain ⟨h1, h2⟩ := matK_iff.1 h
  obtain ⟨h3, h4⟩ := h2 r (List.mem_of_getElem? hr)
  exact ⟨h3, List.all_eq_true.2 fun x hx => decide_eq_true (h4 x hx)⟩
theorem isGameB_parts {g : Gm} (h : isGameB g = true) : isTreeB g.nd = true ∧ (1 ≤ g.w.length ∧ g.w.length ≤ 6) ∧ matK g.w g.w.length 0 9 = true ∧ matK g.v g.w.length (-1) 1 = true ∧ 0 < totW g.w := by
  simp only [isGameB, Bool.and_eq_true, decide_eq_true_eq] at h
  exact ⟨h.1.1.1.1, h.1.1.1.2, h.1.1.2, h.1.2, h.2⟩
theorem isGameB_no {g : Gm} (h : isGameB g = true → False) : isGameB g = false := by
  cases hc : isGameB g with
  | false => rfl
  | true => exact (h hc).elim
theorem impl_IsGame_ok (g : Gm) (hg : gameL g) : Pure Tryd.prog 23 [gameT g] (.b (isGameB g)) := by
  obtain ⟨hg1, hg2, hg3, hg4⟩ := hg
  have ht := impl_IsTree_ok g.nd hg1 hg2
  simp only [treeT, nodes] at ht
  refine fun_impl_IsGame (by simp) ?_
  simp -implicitDefEqProofs only [go_sem, evR, ints, rows, rat, rats, c_impl_IsGame, gameT, nodes]
  refine CallW.pure ht [] rfl Tryd.call43 ?_ (by first | trivial | simp [T.noSh, T.noShL, rat]) rfl ?_
  · simp -implicitDefEqProofs only [agR, Nat.reduceLeDiff, Nat.reduceSub, vaR, go_sem, ints, rows, rat, rats, ratsO, rtR, intsO, rowsO]
  simp -implicitDefEqProofs only [go_sem, evR, ints, rows, rat, rats]
  refine ⟨fun h1 => ?_, fun h1 => ?_⟩
  rotate_left
  · rw [isGameB_no fun h => by have := (isGameB_parts h).1; rw [this] at h1; simp at h1]
  have h1 : isTreeB g.nd = true := by simpa using h1
  refine CallW.pure (impl_within_ok g.w.length 1 6) [] rfl Tryd.call44 ?_ (by first | trivial | simp [T.noSh, T.noShL, rat]) rfl ?_
  · simp -implicitDefEqProofs only [agR, Nat.reduceLeDiff, Nat.reduceSub, vaR, go_sem, ints, rows, rat, rats, ratsO, rtR, intsO, rowsO]
  simp -implicitDefEqProofs only [go_sem, evR, ints, rows, rat, rats]
  refine ⟨fun h2 => ⟨fun h3 => ?_, fun h3 => ?_⟩, fun h2 => ?_⟩
  · rw [isGameB_no fun h => by have := (isGameB_parts h).2.2.2.1; have := (matK_iff.1 this).1; simp at h3; omega]
  rotate_left
  · rw [isGameB_no fun h => by have := (isGameB_parts h).2.1; have := bnT h2; simp at this; omega]
  have h2 : 1 ≤ g.w.length ∧ g.w.length ≤ 6 := by have := bnF h2; simp only [decide_eq_true_eq] at this; omega
  have h3 : g.v.length = g.w.length := by simp at h3; omega
  refine SemC.loopR (σ := Nat) (fun i => St.of [(1, .own 1), (3, .t (.i g.w.length)), (24, .t (.i g.w.length)), (25, .t (.i i))] [(1, .box [nodes g.nd, rows g.w, rows g.v])]) (fun i => i ≤ g.w.length ∧ (∀ j r, j < i → g.w[j]? = some r → rowK g.w.length 0 9 r) ∧ ∀ j r, j < i → g.v[j]? = some r → rowK g.w.length (-1) 1 r) (fun i => g.w.length - i) 0 (Weak.of _ _ [some 1] (by simp) (by simp) ?_ ?_) ⟨by omega, fun j r hj => by omega, fun j r hj => by omega⟩ fun i hI R hn hr he => ?_
  · simp -implicitDefEqProofs only [ints, rows, Nat.reduceBEq, wkR, Nat.reduceEqDiff, ↓reduceIte, wrR, nodes]
  · exact ⟨⟨_, rfl, .refl _⟩, rfl, trivial⟩
  · obtain ⟨hi, hw, hv⟩ := hI
    rcases Nat.lt_or_ge i g.w.length with h9 | h9
    · obtain ⟨r, hx⟩ : ∃ r, g.w[i]? = some r := ⟨_, List.getElem?_eq_getElem h9⟩
      obtain ⟨q, hy⟩ : ∃ q, g.v[i]? = some q := ⟨_, List.getElem?_eq_getElem (by omega)⟩
      have hbw : ¬ rowK g.w.length 0 9 r → isGameB g = false := fun hc => isGameB_no fun h => hc (matK_row (isGameB_parts h).2.2.1 hx)
      have hbv : ¬ rowK g.w.length (-1) 1 q → isGameB g = false := fun hc => isGameB_no fun h => hc (matK_row (isGameB_parts h).2.2.2.1 hy)
      simp -implicitDefEqProofs only [go_sem, evR, ints, rows, rat, rats, nodes, hx, hy, decide_eq_true (show (i : Int) < (g.w.length : Int) by omega)]
      refine ⟨by omega, by omega, by omega, fun h4 => ⟨by omega, by omega, by omega, ?_⟩, fun h4 => hr _ ?_⟩
      rotate_left
      · simp -implicitDefEqProofs only [go_sem, evR, ints, rows, rat, rats]
        rw [hbw fun h => by have := h.1; simp at h4; omega]
      have h4 : r.length = g.w.length := by simp at h4; omega
      refine ⟨fun h5 => ⟨by omega, by omega, by omega, ?_⟩, fun h5 => hr _ ?_⟩
      rotate_left
      · simp -implicitDefEqProofs only [go_sem, evR, ints, rows, rat, rats]
        rw [hbv fun h => by have := h.1; simp at h5; omega]
      have h5 : q.length = g.w.length := by simp at h5; omega
      refine CallW.pure (impl_allWithin_ok r 0 9 (by omega)) [] rfl Tryd.call45 ?_ (by first | trivial | simp [T.noSh, T.noShL, rat]) rfl ?_
      · simp -implicitDefEqProofs only [agR, Nat.reduceLeDiff, Nat.reduceSub, vaR, go_sem, ints, rows, rat, rats, ratsO, rtR, intsO, rowsO]
      simp -implicitDefEqProofs only [go_sem, evR, ints, rows, rat, rats, hx, hy]
      refine ⟨fun h6 => ⟨by omega, by omega, by omega, ?_⟩, fun h6 => hr _ ?_⟩
      rotate_left
      · simp -implicitDefEqProofs only [go_sem, evR, ints, rows, rat, rats]
        rw [hbw fun h => by rw [h.2] at h6; simp at h6]
      have h6 : (r.all fun x => decide (0 ≤ x ∧ x ≤ 9)) = true := by simpa using h6
      refine CallW.pure (impl_allWithin_ok q (-1) 1 (by omega)) [] rfl Tryd.call45 ?_ (by first | trivial | simp [T.noSh, T.noShL, rat]) rfl ?_
      · simp -implicitDefEqProofs only [agR, Nat.reduceLeDiff, Nat.reduceSub, vaR, go_sem, ints, rows, rat, rats, ratsO, rtR, intsO, rowsO]
      simp -implicitDefEqProofs only [go_sem, evR, ints, rows, rat, rats]
      refine ⟨fun h7 => hr _ ?_, fun h7 => hn _ (i + 1) (Weak.of _ _ [some 1] (by simp) (by simp) ?_ ?_) ⟨by omega, fun j r' hj hr' => ?_, fun j r' hj hr' => ?_⟩ (by omega)⟩
      · simp -implicitDefEqProofs only [go_sem, evR, ints, rows, rat, rats]
        rw [hbv fun h => by rw [h.2] at h7; simp at h7]
      · simp -implicitDefEqProofs only [ints, rows, Nat.reduceBEq, wkR, Nat.reduceEqDiff, ↓reduceIte, wrR, nodes, next64 h9 (by omega)]
      · exact ⟨⟨_, rfl, .refl _⟩, rfl, trivial⟩
      · by_cases hji : j = i
        · subst hji; rw [hx] at hr'; cases hr'; exact ⟨h4, h6⟩
        · exact hw j r' (by omega) hr'
      · by_cases hji : j = i
        · subst hji; rw [hy] at hr'; cases hr'; exact ⟨h5, bnF h7⟩
        · exact hv j r' (by omega) hr'
    · simp -implicitDefEqProofs only [go_sem, evR, ints, rows, rat, rats, nodes, decide_eq_false (show ¬ (i : Int) < (g.w.length : Int) by omega)]
      refine he _ _ ?_
      simp -implicitDefEqProofs only [go_sem, evR, ints, rows, rat, rats]
      have hmw : matK g.w g.w.length 0 9 = true := matK_rows rfl fun j r hj hr => hw j r (by omega) hr
      have hmv : matK g.v g.w.length (-1) 1 = true := matK_rows h3 fun j r hj hr => hv j r (by omega) hr
      have hW := impl_totalWeight_ok g (smallW_of hmw h2.2)
      simp only [gameT, nodes, rows] at hW
      refine CallW.pure hW [] rfl Tryd.call46 ?_ (by first | trivial | simp [T.noSh, T.noShL, rat]) rfl ?_
      · simp -implicitDefEqProofs only [agR, Nat.reduceLeDiff, Nat.reduceSub, vaR, go_sem, ints, rows, rat, rats, ratsO, rtR, intsO, rowsO]
      simp -implicitDefEqProofs only [go_sem, evR, ints, rows, rat, rats]
      rw [isGameB, h1, decide_eq_true h2, hmw, hmv]; rfl
end
end Go.Ab

/- Contracts: the nodes of a player; information sets. -/
set_option linter.unusedSimpArgs false
set_option linter.unusedVariables false
namespace Go.Ab
open Go.Proofs

theorem idxs_at {l : List Nd} {i : Nat} {x : Nd} (h : l[i]? = some x) (pl : Int) : idxs l pl (i + 1) = if x.p = pl then idxs l pl i ++ [(i : Int)] else idxs l pl i := by
  rw [idxs_succ, List.getD_eq_getElem?_getD, h]; rfl
theorem idxs_length (l : List Nd) (pl : Int) (n : Nat) : (idxs l pl n).length ≤ n := by
  unfold idxs
  rw [List.length_map]
  have := List.length_filter_le (fun i => decide ((l.getD i nd0).p = pl)) (List.range n)
  simpa using this
section
attribute [-go_sem] load1C
set_option maxRecDepth 20000 in
theorem spec_l20Of_ok (l : List Nd) (pl : Int) (hl : l.length ≤ 1000000000000) : Fun Tryd.prog 65 [] [.t (treeT l), .t (.i pl)] fun o r => o = [] ∧ r = intsO (idxs l pl l.length) := by
  refine fun_spec_l20Of (by simp) ?_
  simp -implicitDefEqProofs only [go_sem, evR, ints, rows, rat, rats, c_spec_l20Of, treeT, nodes]
  refine SemC.loopR (σ := Nat) (fun i => St.of [(1, .t (.i pl)), (2, .own 2), (5, .own 77), (6, .t (.i i))] [(2, .box [nodes l]), (77, .arr 1 ((idxs l pl i).map T.i))]) (fun i => i ≤ l.length) (fun i => l.length - i) 0 (Weak.of _ _ [some 2, some 7] (by simp) (by simp) ?_ ?_) (by omega) fun i hi R hn hr he => ?_
  · simp -implicitDefEqProofs only [ints, rows, Nat.reduceBEq, wkR, Nat.reduceEqDiff, ↓reduceIte, wrR, nodes]
  · exact ⟨⟨_, rfl, .refl _⟩, rfl, ⟨_, rfl, .refl _⟩, rfl, trivial⟩
  · rcases Nat.lt_or_ge i l.length with h9 | h9
    · obtain ⟨x, hx⟩ : ∃ x, l[i]? = some x := ⟨_, List.getElem?_eq_getElem h9⟩
      have hil := idxs_length l pl i
      simp -implicitDefEqProofs only [go_sem, evR, ints, rows, rat, rats, nodes, nd_get0 hx, decide_eq_true (show (i : Int) < (l.length : Int) by omega)]
      refine ⟨by omega, by rw [nd_len]; omega, by rw [nd_len]; omega, fun h1 => ⟨by omega, ?_⟩, fun h1 => ?_⟩
      · have h1 : x.p = pl := by simpa using h1
        refine hn _ (i + 1) (Weak.of _ _ [some 2, some 26] (by simp) (by simp) ?_ ?_) (by omega) (by omega)
        · simp -implicitDefEqProofs only [ints, rows, Nat.reduceBEq, wkR, Nat.reduceEqDiff, ↓reduceIte, wrR, nodes, next64 h9 hl]
        · refine ⟨⟨_, rfl, .refl _⟩, rfl, ⟨_, rfl, ?_⟩, rfl, trivial⟩
          rw [idxs_at hx, if_pos h1, List.map_append]; exact .refl _
      · have h1 : ¬ x.p = pl := by simpa using h1
        refine hn _ (i + 1) (Weak.of _ _ [some 2, some 77] (by simp) (by simp) ?_ ?_) (by omega) (by omega)
        · simp -implicitDefEqProofs only [ints, rows, Nat.reduceBEq, wkR, Nat.reduceEqDiff, ↓reduceIte, wrR, nodes, next64 h9 hl]
        · refine ⟨⟨_, rfl, .refl _⟩, rfl, ⟨_, rfl, ?_⟩, rfl, trivial⟩
          rw [idxs_at hx, if_neg h1]; exact .refl _
    · simp -implicitDefEqProofs only [go_sem, evR, ints, rows, rat, rats, nodes, decide_eq_false (show ¬ (i : Int) < (l.length : Int) by omega)]
      refine he _ _ ?_
      simp -implicitDefEqProofs only [go_sem, evR, ints, rows, rat, rats]
      rw [show i = l.length by omega]; rfl
set_option maxRecDepth 20000 in
theorem impl_nodesOf_ok (l : List Nd) (pl : Int) (hl : l.length ≤ 1000000000000) : Fun Tryd.prog 71 [] [.t (treeT l), .t (.i pl)] fun o r => o = [] ∧ r = intsO (idxs l pl l.length) := by
  refine fun_impl_nodesOf (by simp) ?_
  simp -implicitDefEqProofs only [go_sem, evR, ints, rows, rat, rats, c_impl_nodesOf, treeT, nodes]
  refine SemC.loopR (σ := Nat) (fun i => St.of [(1, .t (.i pl)), (5, .own 77), (9, .t (nodes l)), (10, .t (.i l.length)), (11, .t (.i i))] [(77, .arr 1 ((idxs l pl i).map T.i))]) (fun i => i ≤ l.length) (fun i => l.length - i) 0 (Weak.of _ _ [none] (by simp) (by simp) ?_ ?_) (by omega) fun i hi R hn hr he => ?_
  · simp -implicitDefEqProofs only [ints, rows, Nat.reduceBEq, wkR, Nat.reduceEqDiff, ↓reduceIte, wrR, nodes, nd_len]
  · exact ⟨⟨1, rfl⟩, trivial⟩
  · rcases Nat.lt_or_ge i l.length with h9 | h9
    · obtain ⟨x, hx⟩ : ∃ x, l[i]? = some x := ⟨_, List.getElem?_eq_getElem h9⟩
      have hil := idxs_length l pl i
      simp -implicitDefEqProofs only [go_sem, evR, ints, rows, rat, rats, nodes, nd_at hx, decide_eq_true (show (i : Int) < (l.length : Int) by omega)]
      refine ⟨by omega, by rw [nd_len]; omega, by rw [nd_len]; omega, fun h1 => ⟨by omega, ?_⟩, fun h1 => ?_⟩
      · have h1 : x.p = pl := by simpa using h1
        refine hn _ (i + 1) (Weak.of _ _ [some 23] (by simp) (by simp) ?_ ?_) (by omega) (by omega)
        · simp -implicitDefEqProofs only [ints, rows, Nat.reduceBEq, wkR, Nat.reduceEqDiff, ↓reduceIte, wrR, nodes, next64 h9 hl]
        · refine ⟨⟨_, rfl, ?_⟩, rfl, trivial⟩
          rw [idxs_at hx, if_pos h1, List.map_append]; exact .refl _
      · have h1 : ¬ x.p = pl := by simpa using h1
        refine hn _ (i + 1) (Weak.of _ _ [some 77] (by simp) (by simp) ?_ ?_) (by omega) (by omega)
        · simp -implicitDefEqProofs only [ints, rows, Nat.reduceBEq, wkR, Nat.reduceEqDiff, ↓reduceIte, wrR, nodes, next64 h9 hl]
        · refine ⟨⟨_, rfl, ?_⟩, rfl, trivial⟩
          rw [idxs_at hx, if_neg h1]; exact .refl _
    · simp -implicitDefEqProofs only [go_sem, evR, ints, rows, rat, rats, nodes, decide_eq_false (show ¬ (i : Int) < (l.length : Int) by omega)]
      refine he _ _ ?_
      simp -implicitDefEqProofs only [go_sem, evR, ints, rows, rat, rats]
      rw [show i = l.length by omega]; rfl
def setsP (ns : List Int) (k i c : Nat) : List (List Int) := setsOf (ns.take i) k ++ (List.range c).map fun a : Nat => [ns.getD i 0, (a : Int)]
theorem setsP_zero (ns : List Int) (k i : Nat) : setsP ns k i 0 = setsOf (ns.take i) k := by simp [setsP]
theorem setsP_snoc (ns : List Int) (k i c : Nat) : setsP ns k i (c + 1) = setsP ns k i c ++ [[ns.getD i 0, (c : Int)]] := by simp [setsP, List.range_succ]
theorem setsP_next {ns : List Int} {k i : Nat} {n : Int} (h : ns[i]? = some n) : setsP ns k i k = setsP ns k (i + 1) 0 := by
  rw [setsP_zero, take_snoc h, setsOf_snoc, setsP, List.getD_eq_getElem?_getD, h]; rfl
theorem setsP_length (ns : List Int) (k i c : Nat) : (setsP ns k i c).length ≤ ns.length * k + c := by
  rw [setsP, List.length_append, setsOf_length, List.length_map, List.length_range, List.length_take]
  have : Nat.min i ns.length * k ≤ ns.length * k := Nat.mul_le_mul_right _ (Nat.min_le_right _ _)
  have e : min i ns.length = Nat.min i ns.length := rfl
  rw [e]; omega
theorem setsP_all (ns : List Int) (k : Nat) : setsP ns k ns.length 0 = setsOf ns k := by rw [setsP_zero, List.take_length]
theorem spec_l20Of_t (l : List Nd) (pl : Int) (hl : l.length ≤ 1000000000000) : Fun Tryd.prog 65 [] [.t (.agg [.sh 5 (chunk nodeC l)]), .t (.i pl)] fun o r => o = [] ∧ r = intsO (idxs l pl l.length) := spec_l20Of_ok l pl hl
theorem impl_nodesOf_t (l : List Nd) (pl : Int) (hl : l.length ≤ 1000000000000) : Fun Tryd.prog 71 [] [.t (.agg [.sh 5 (chunk nodeC l)]), .t (.i pl)] fun o r => o = [] ∧ r = intsO (idxs l pl l.length) := impl_nodesOf_ok l pl hl
set_option maxRecDepth 20000 in
theorem spec_l21Sets_ok (g : Gm) (pl : Int) (hl : g.nd.length ≤ 60) (hk : g.w.length ≤ 6) : Fun Tryd.prog 36 [] [.t (gameT g), .t (.i pl)] fun o r => o = [] ∧ r = rowsO (sets g pl) := by
  refine fun_spec_l21Sets (by simp) ?_
  simp -implicitDefEqProofs only [go_sem, evR, ints, rows, rat, rats, c_spec_l21Sets, gameT, nodes]
  refine CallW.res (spec_l20Of_t g.nd pl (by omega)) [] rfl Tryd.call65 ?_ (.inl rfl) ?_
  · simp -implicitDefEqProofs only [agR, Nat.reduceLeDiff, Nat.reduceSub, vaR, go_sem, ints, rows, rat, rats, ratsO, rtR, intsO, rowsO]
  simp -implicitDefEqProofs only [clR, Nat.reduceLeDiff, go_sem, evR, rat]
  have hns := idxs_length g.nd pl g.nd.length
  have hsets : sets g pl = setsOf (idxs g.nd pl g.nd.length) g.w.length := rfl
  rw [hsets]
  generalize idxs g.nd pl g.nd.length = ns at hns ⊢
  refine SemC.loopR (σ := Nat) (fun i => St.of [(2, .own 2), (5, .own 12), (6, .own 77), (7, .t (.i i))] [(2, .box [nodes g.nd, rows g.w, rows g.v]), (12, intsO ns), (77, .arr 1 ((setsP ns g.w.length i 0).map intsO))]) (fun i => i ≤ ns.length) (fun i => ns.length - i) 0 (Weak.of _ _ [some 2, some 12, some 13] (by simp) (by simp) ?_ ?_) (by omega) fun i hi R hn hr he => ?_
  · simp -implicitDefEqProofs only [ints, rows, Nat.reduceBEq, wkR, Nat.reduceEqDiff, ↓reduceIte, wrR, nodes]
  · exact ⟨⟨_, rfl, .refl _⟩, rfl, ⟨_, rfl, .refl _⟩, rfl, ⟨_, rfl, .refl _⟩, rfl, trivial⟩
  · rcases Nat.lt_or_ge i ns.length with h9 | h9
    · obtain ⟨n, hx⟩ : ∃ n, ns[i]? = some n := ⟨_, List.getElem?_eq_getElem h9⟩
      simp -implicitDefEqProofs only [go_sem, evR, ints, rows, rat, rats, nodes, intsO, decide_eq_true (show (i : Int) < (ns.length : Int) by omega)]
      refine SemC.loopR (σ := Nat) (fun c => St.of [(2, .own 2), (5, .own 12), (6, .own 77), (7, .t (.i i)), (8, .t (.i c))] [(2, .box [nodes g.nd, rows g.w, rows g.v]), (12, intsO ns), (77, .arr 1 ((setsP ns g.w.length i c).map intsO))]) (fun c => c ≤ g.w.length) (fun c => g.w.length - c) 0 (Weak.of _ _ [some 2, some 12, some 77] (by simp) (by simp) ?_ ?_) (by omega) fun c hc R2 hn2 hr2 he2 => ?_
      · simp -implicitDefEqProofs only [ints, rows, Nat.reduceBEq, wkR, Nat.reduceEqDiff, ↓reduceIte, wrR, nodes]
      · exact ⟨⟨_, rfl, .refl _⟩, rfl, ⟨_, rfl, .refl _⟩, rfl, ⟨_, rfl, .refl _⟩, rfl, trivial⟩
      · rcases Nat.lt_or_ge c g.w.length with h8 | h8
        · have hil := setsP_length ns g.w.length i c
          simp -implicitDefEqProofs only [go_sem, evR, ints, rows, rat, rats, nodes, intsO, hx, decide_eq_true (show (c : Int) < (g.w.length : Int) by omega)]
          have hmul : ns.length * g.w.length ≤ 60 * 6 := Nat.mul_le_mul (by omega) hk
          refine ⟨by omega, by omega, by omega, by omega, hn2 _ (c + 1) (Weak.of _ _ [some 2, some 12, some 35] (by simp) (by simp) ?_ ?_) (by omega) (by omega)⟩
          · simp -implicitDefEqProofs only [ints, rows, Nat.reduceBEq, wkR, Nat.reduceEqDiff, ↓reduceIte, wrR, nodes, next64 h8 (by omega)]
          · refine ⟨⟨_, rfl, .refl _⟩, rfl, ⟨_, rfl, .refl _⟩, rfl, ⟨_, rfl, ?_⟩, rfl, trivial⟩
            rw [setsP_snoc, List.map_append, List.getD_eq_getElem?_getD, hx]; exact .refl _
        · simp -implicitDefEqProofs only [go_sem, evR, ints, rows, rat, rats, nodes, decide_eq_false (show ¬ (c : Int) < (g.w.length : Int) by omega)]
          refine he2 _ _ ?_
          simp -implicitDefEqProofs only [go_sem, evR, ints, rows, rat, rats]
          refine hn _ (i + 1) (Weak.of _ _ [some 2, some 12, some 77] (by simp) (by simp) ?_ ?_) (by omega) (by omega)
          · simp -implicitDefEqProofs only [ints, rows, Nat.reduceBEq, wkR, Nat.reduceEqDiff, ↓reduceIte, wrR, nodes, next64 h9 (by omega)]
          · refine ⟨⟨_, rfl, .refl _⟩, rfl, ⟨_, rfl, .refl _⟩, rfl, ⟨_, rfl, ?_⟩, rfl, trivial⟩
            rw [show c = g.w.length by omega, setsP_next hx]; exact .refl _
    · simp -implicitDefEqProofs only [go_sem, evR, ints, rows, rat, rats, nodes, intsO, decide_eq_false (show ¬ (i : Int) < (ns.length : Int) by omega)]
      refine he _ _ ?_
      simp -implicitDefEqProofs only [go_sem, evR, ints, rows, rat, rats]
      rw [show i = ns.length by omega, setsP_all]; rfl
set_option maxRecDepth 20000 in
theorem impl_infoSets_ok (g : Gm) (pl : Int) (hl : g.nd.length ≤ 60) (hk : g.w.length ≤ 6) : Fun Tryd.prog 50 [] [.t (gameT g), .t (.i pl)] fun o r => o = [] ∧ r = rowsO (sets g pl) := by
  refine fun_impl_infoSets (by simp) ?_
  simp -implicitDefEqProofs only [go_sem, evR, ints, rows, rat, rats, c_impl_infoSets, gameT, nodes]
  refine CallW.res (impl_nodesOf_t g.nd pl (by omega)) [] rfl Tryd.call71 ?_ (.inl rfl) ?_
  · simp -implicitDefEqProofs only [agR, Nat.reduceLeDiff, Nat.reduceSub, vaR, go_sem, ints, rows, rat, rats, ratsO, rtR, intsO, rowsO]
  simp -implicitDefEqProofs only [clR, Nat.reduceLeDiff, go_sem, evR, rat, intsO]
  have hns := idxs_length g.nd pl g.nd.length
  have hsets : sets g pl = setsOf (idxs g.nd pl g.nd.length) g.w.length := rfl
  rw [hsets]
  generalize idxs g.nd pl g.nd.length = ns at hns ⊢
  refine SemC.loopR (σ := Nat) (fun i => St.of [(2, .own 2), (5, .own 77), (12, .own 12), (13, .t (.i ns.length)), (14, .t (.i i))] [(2, .box [nodes g.nd, rows g.w, rows g.v]), (12, intsO ns), (77, .arr 1 ((setsP ns g.w.length i 0).map intsO))]) (fun i => i ≤ ns.length) (fun i => ns.length - i) 0 (Weak.of _ _ [some 2, some 12, none] (by simp) (by simp) ?_ ?_) (by omega) fun i hi R hn hr he => ?_
  · simp -implicitDefEqProofs only [ints, rows, Nat.reduceBEq, wkR, Nat.reduceEqDiff, ↓reduceIte, wrR, nodes]
  · exact ⟨⟨_, rfl, .refl _⟩, rfl, ⟨_, rfl, .refl _⟩, rfl, ⟨1, rfl⟩, trivial⟩
  · rcases Nat.lt_or_ge i ns.length with h9 | h9
    · obtain ⟨n, hx⟩ : ∃ n, ns[i]? = some n := ⟨_, List.getElem?_eq_getElem h9⟩
      simp -implicitDefEqProofs only [go_sem, evR, ints, rows, rat, rats, nodes, intsO, hx, decide_eq_true (show (i : Int) < (ns.length : Int) by omega)]
      refine ⟨by omega, by omega, by omega, ?_⟩
      refine SemC.loopR (σ := Nat) (fun c => St.of [(2, .own 2), (5, .own 77), (7, .t (.i n)), (12, .own 12), (13, .t (.i ns.length)), (14, .t (.i i)), (20, .t (.i g.w.length)), (21, .t (.i c))] [(2, .box [nodes g.nd, rows g.w, rows g.v]), (12, intsO ns), (77, .arr 1 ((setsP ns g.w.length i c).map intsO))]) (fun c => c ≤ g.w.length) (fun c => g.w.length - c) 0 (Weak.of _ _ [some 2, some 12, some 77] (by simp) (by simp) ?_ ?_) (by omega) fun c hc R2 hn2 hr2 he2 => ?_
      · simp -implicitDefEqProofs only [ints, rows, Nat.reduceBEq, wkR, Nat.reduceEqDiff, ↓reduceIte, wrR, nodes]
      · exact ⟨⟨_, rfl, .refl _⟩, rfl, ⟨_, rfl, .refl _⟩, rfl, ⟨_, rfl, .refl _⟩, rfl, trivial⟩
      · rcases Nat.lt_or_ge c g.w.length with h8 | h8
        · have hil := setsP_length ns g.w.length i c
          simp -implicitDefEqProofs only [go_sem, evR, ints, rows, rat, rats, nodes, intsO, decide_eq_true (show (c : Int) < (g.w.length : Int) by omega)]
          have hmul : ns.length * g.w.length ≤ 60 * 6 := Nat.mul_le_mul (by omega) hk
          refine ⟨by omega, hn2 _ (c + 1) (Weak.of _ _ [some 2, some 12, some 29] (by simp) (by simp) ?_ ?_) (by omega) (by omega)⟩
          · simp -implicitDefEqProofs only [ints, rows, Nat.reduceBEq, wkR, Nat.reduceEqDiff, ↓reduceIte, wrR, nodes, next64 h8 (by omega)]
          · refine ⟨⟨_, rfl, .refl _⟩, rfl, ⟨_, rfl, .refl _⟩, rfl, ⟨_, rfl, ?_⟩, rfl, trivial⟩
            rw [setsP_snoc, List.map_append, List.getD_eq_getElem?_getD, hx]; exact .refl _
        · simp -implicitDefEqProofs only [go_sem, evR, ints, rows, rat, rats, nodes, decide_eq_false (show ¬ (c : Int) < (g.w.length : Int) by omega)]
          refine he2 _ _ ?_
          simp -implicitDefEqProofs only [go_sem, evR, ints, rows, rat, rats]
          refine hn _ (i + 1) (Weak.of _ _ [some 2, some 12, some 77] (by simp) (by simp) ?_ ?_) (by omega) (by omega)
          · simp -implicitDefEqProofs only [ints, rows, Nat.reduceBEq, wkR, Nat.reduceEqDiff, ↓reduceIte, wrR, nodes, next64 h9 (by omega)]
          · refine ⟨⟨_, rfl, .refl _⟩, rfl, ⟨_, rfl, .refl _⟩, rfl, ⟨_, rfl, ?_⟩, rfl, trivial⟩
            rw [show c = g.w.length by omega, setsP_next hx]; exact .refl _
    · simp -implicitDefEqProofs only [go_sem, evR, ints, rows, rat, rats, nodes, intsO, decide_eq_false (show ¬ (i : Int) < (ns.length : Int) by omega)]
      refine he _ _ ?_
      simp -implicitDefEqProofs only [go_sem, evR, ints, rows, rat, rats]
      rw [show i = ns.length by omega, setsP_all]; rfl
end
end Go.Ab

/- Contracts: valid strategies. -/
set_option linter.unusedSimpArgs false
set_option linter.unusedVariables false
namespace Go.Ab
open Go.Proofs

theorem set_elem {g : Gm} {pl : Int} {i : Nat} (h : i < (sets g pl).length) : ∃ (n c : Nat) (x : Nd), (sets g pl)[i]? = some [(n : Int), (c : Int)] ∧ g.nd[n]? = some x ∧ n < g.nd.length ∧ c < g.w.length ∧ x.p = pl ∧ sizeAt g pl i = x.ch.length := by
  have hg := List.getElem?_eq_getElem h
  obtain ⟨n0, hn0, c, hc, e⟩ := setsOf_mem (List.getElem_mem h)
  obtain ⟨n, rfl, hn, hp⟩ := idxs_mem hn0
  rw [e] at hg
  have hx : g.nd[n]? = some g.nd[n] := List.getElem?_eq_getElem hn
  have hd : g.nd.getD n nd0 = g.nd[n] := by rw [List.getD_eq_getElem?_getD, hx]; rfl
  refine ⟨n, c, g.nd[n], hg, hx, hn, hc, by rw [← hd]; exact hp, ?_⟩
  have e0 : (sets g pl).getD i [] = [(n : Int), (c : Int)] := by rw [List.getD_eq_getElem?_getD, hg]; rfl
  rw [sizeAt, e0, ← hd]; rfl
theorem isStratB_iff {g : Gm} {pl : Int} {pt : List (List Int)} : isStratB g pl pt = true ↔ pt.length = (sets g pl).length ∧ ∀ i, i < (sets g pl).length → partOK (sizeAt g pl i) (pt.getD i []) = true := by
  simp only [isStratB, Bool.and_eq_true, decide_eq_true_eq, List.all_eq_true, List.mem_range]
theorem isStratB_no {g : Gm} {pl : Int} {pt : List (List Int)} (h : ¬ (pt.length = (sets g pl).length ∧ ∀ i, i < (sets g pl).length → partOK (sizeAt g pl i) (pt.getD i []) = true)) : isStratB g pl pt = false := by
  cases hc : isStratB g pl pt with
  | false => rfl
  | true => exact absurd (isStratB_iff.1 hc) h
theorem partOK_iff {n : Nat} {l : List Int} : partOK n l = true ↔ l.length = n ∧ (l.all fun x => decide (0 ≤ x ∧ x ≤ 60)) = true ∧ l.sum = 60 := by
  simp only [partOK, Bool.and_eq_true, decide_eq_true_eq, sumI_eq, and_assoc]
theorem sets_len (g : Gm) (pl : Int) (hl : g.nd.length ≤ 60) (hk : g.w.length ≤ 6) : (sets g pl).length ≤ 360 := by
  rw [sets_length]
  have := idxs_length g.nd pl g.nd.length
  have : (idxs g.nd pl g.nd.length).length * g.w.length ≤ 60 * 6 := Nat.mul_le_mul (by omega) hk
  omega
theorem all60_small {r : List Int} (h : (r.all fun x => decide (0 ≤ x ∧ x ≤ 60)) = true) (hl : r.length ≤ 1000) : smallL r := by
  rw [List.all_eq_true] at h
  exact ⟨hl, fun x hx => by have := h x hx; simp only [decide_eq_true_eq] at this; omega⟩
def strB (g : Gm) (s : Int × List (List Int)) : Bool := isGameB g && decide (0 ≤ s.1 ∧ s.1 ≤ 1) && isStratB g s.1 s.2
theorem infoSets_t (g : Gm) (pl : Int) (hl : g.nd.length ≤ 60) (hk : g.w.length ≤ 6) : Fun Tryd.prog 50 [] [.t (.agg [.sh 5 (chunk nodeC g.nd), .sh 1 (g.w.map ints), .sh 1 (g.v.map ints)]), .t (.i pl)] fun o r => o = [] ∧ r = rowsO (sets g pl) := impl_infoSets_ok g pl hl hk
theorem l21Sets_t (g : Gm) (pl : Int) (hl : g.nd.length ≤ 60) (hk : g.w.length ≤ 6) : Fun Tryd.prog 36 [] [.t (.agg [.sh 5 (chunk nodeC g.nd), .sh 1 (g.w.map ints), .sh 1 (g.v.map ints)]), .t (.i pl)] fun o r => o = [] ∧ r = rowsO (sets g pl) := spec_l21Sets_ok g pl hl hk
theorem arr_toSh (m : List (List Int)) : (T.arr 1 (m.map intsO)).toSh = T.sh 1 (m.map ints) := rowsO_toSh m
section
attribute [-go_sem] load1C load1V fldC lenC idxC loadNV
set_option maxRecDepth 20000 in
theorem impl_isStrategy_ok (g : Gm) (s : Int × List (List Int)) (hg : isGameB g = true) (hs : rowsL s.2) : Pure Tryd.prog 69 [gameT g, stratT s] (.b (isStratB g s.1 s.2)) := by
  obtain ⟨pl, pt⟩ := s
  obtain ⟨hs1, hs2⟩ := hs
  simp only [] at hs1 hs2 ⊢
  obtain ⟨p1, p2, p3, p4, p5⟩ := isGameB_parts hg
  obtain ⟨t1, t2, t3, t4⟩ := isTreeB_spec p1
  have hnl : ∀ {n : Nat} {x : Nd}, g.nd[n]? = some x → x.ch.length ≤ 4 := fun hx => (ndOK_fields (t2 _ _ hx)).2.2.2.2.2
  have hsl := sets_len g pl t1.2 p2.2
  refine fun_impl_isStrategy (by simp) ?_
  simp -implicitDefEqProofs only [go_sem, evR, ints, rows, rat, rats, c_impl_isStrategy, gameT, stratT, nodes]
  refine CallW.res (infoSets_t g pl t1.2 p2.2) [] rfl Tryd.call50 ?_ (.inl rfl) ?_
  · simp -implicitDefEqProofs only [agR, Nat.reduceLeDiff, Nat.reduceSub, vaR, go_sem, ints, rows, rat, rats, ratsO, rtR, intsO, rowsO]
  simp -implicitDefEqProofs only [clR, Nat.reduceLeDiff, go_sem, evR, rat, rowsO]
  refine ⟨fun h1 => ?_, fun h1 => ?_⟩
  · have h1 : ¬ pt.length = (sets g pl).length := by simp at h1; omega
    rw [isStratB_no fun h => h1 h.1]
  have h1 : pt.length = (sets g pl).length := by simp at h1; omega
  refine SemC.loopR (σ := Nat) (fun i => St.of [(2, .own 2), (3, .own 3), (19, .t (rows (sets g pl))), (20, .t (.i (sets g pl).length)), (21, .t (.i i))] [(2, .box [nodes g.nd, rows g.w, rows g.v]), (3, .box [.i pl, rows pt])]) (fun i => i ≤ (sets g pl).length ∧ ∀ j, j < i → partOK (sizeAt g pl j) (pt.getD j []) = true) (fun i => (sets g pl).length - i) 0 (Weak.trans (Weak.share 12 rfl) (Weak.of _ _ [some 2, some 3] (by simp) (by simp) ?_ ?_)) ⟨by omega, fun j hj => by omega⟩ fun i hI R hn hr he => ?_
  · simp -implicitDefEqProofs only [ints, rows, Nat.reduceBEq, wkR, Nat.reduceEqDiff, ↓reduceIte, wrR, shareA, arr_toSh, nodes]
  · exact ⟨⟨_, rfl, .refl _⟩, rfl, ⟨_, rfl, .refl _⟩, rfl, trivial⟩
  · obtain ⟨hi, hok⟩ := hI
    rcases Nat.lt_or_ge i (sets g pl).length with h9 | h9
    · obtain ⟨n, c, x, hx1, hx2, hx3, hx4, hx5, hx6⟩ := set_elem h9
      obtain ⟨r, hr1⟩ : ∃ r, pt[i]? = some r := ⟨_, List.getElem?_eq_getElem (by omega)⟩
      have hrd : pt.getD i [] = r := by rw [List.getD_eq_getElem?_getD, hr1]; rfl
      have hno : ¬ partOK x.ch.length r = true → isStratB g pl pt = false := fun hc => isStratB_no fun h => hc (by have := h.2 i h9; rwa [hx6, hrd] at this)
      have hxl := hnl hx2
      simp -implicitDefEqProofs only [go_sem, evR, ints, rows, rat, rats, nodes, hx1, hr1, nd_get4 hx2, decide_eq_true (show (i : Int) < ((sets g pl).length : Int) by omega)]
      refine ⟨by omega, by omega, by omega, by omega, by omega, by omega, by omega, by rw [nd_len]; omega, by rw [nd_len]; omega, fun h2 => ?_, fun h2 => hr _ ?_⟩
      rotate_left
      · simp -implicitDefEqProofs only [go_sem, evR, ints, rows, rat, rats]
        rw [hno fun h => by have := (partOK_iff.1 h).1; simp at h2; omega]
      have h2 : r.length = x.ch.length := by simp at h2; omega
      refine CallV.pure (impl_allWithin_ok r 0 60 (by omega)) [] rfl Tryd.call45 (fun e R' hR => ?_) (by first | trivial | simp [T.noSh, T.noShL, rat]) (fun _ => rfl) ?_
      · simp -implicitDefEqProofs only [agR, Nat.reduceLeDiff, Nat.reduceSub, vaR, go_sem, ints, rows, rat, rats, ratsO, rtR, intsO, rowsO]
      simp -implicitDefEqProofs only [go_sem, evR, ints, rows, rat, rats]
      refine ⟨fun h3 => ?_, fun h3 => hr _ ?_⟩
      rotate_left
      · simp -implicitDefEqProofs only [go_sem, evR, ints, rows, rat, rats]
        rw [hno fun h => by rw [(partOK_iff.1 h).2.1] at h3; simp at h3]
      have h3 : (r.all fun x => decide (0 ≤ x ∧ x ≤ 60)) = true := bnF h3
      refine CallV.pure (impl_sumOf_ok r (all60_small h3 (by omega))) [] rfl Tryd.call68 (fun e R' hR => ?_) (by first | trivial | simp [T.noSh, T.noShL, rat]) (fun _ => rfl) ?_
      · simp -implicitDefEqProofs only [agR, Nat.reduceLeDiff, Nat.reduceSub, vaR, go_sem, ints, rows, rat, rats, ratsO, rtR, intsO, rowsO]
      simp -implicitDefEqProofs only [go_sem, evR, ints, rows, rat, rats]
      refine ⟨fun h4 => hr _ ?_, fun h4 => hn _ (i + 1) (Weak.of _ _ [some 2, some 3] (by simp) (by simp) ?_ ?_) ⟨by omega, fun j hj => ?_⟩ (by omega)⟩
      · simp -implicitDefEqProofs only [go_sem, evR, ints, rows, rat, rats]
        rw [hno fun h => by have := (partOK_iff.1 h).2.2; simp at h4; omega]
      · simp -implicitDefEqProofs only [ints, rows, Nat.reduceBEq, wkR, Nat.reduceEqDiff, ↓reduceIte, wrR, nodes, next64 h9 (by omega)]
      · exact ⟨⟨_, rfl, .refl _⟩, rfl, ⟨_, rfl, .refl _⟩, rfl, trivial⟩
      · by_cases hji : j = i
        · subst hji; rw [hx6, hrd]; exact partOK_iff.2 ⟨h2, h3, by simpa using h4⟩
        · exact hok j (by omega)
    · simp -implicitDefEqProofs only [go_sem, evR, ints, rows, rat, rats, nodes, decide_eq_false (show ¬ (i : Int) < ((sets g pl).length : Int) by omega)]
      refine he _ _ ?_
      simp -implicitDefEqProofs only [go_sem, evR, ints, rows, rat, rats]
      rw [isStratB_iff.2 ⟨h1, fun j hj => hok j (by omega)⟩]
end
end Go.Ab

/- Contracts: valid strategies, exported. -/
set_option linter.unusedSimpArgs false
set_option linter.unusedVariables false
namespace Go.Ab
open Go.Proofs

section
attribute [-go_sem] load1C load1V fldC lenC idxC loadNV
theorem isGame_t {f : FuncId} {g : Gm} {b : Bool} (h : Pure Tryd.prog f [gameT g] (.b b)) : Pure Tryd.prog f [.agg [.sh 5 (chunk nodeC g.nd), .sh 1 (g.w.map ints), .sh 1 (g.v.map ints)]] (.b b) := h
set_option maxRecDepth 20000 in
theorem impl_IsStrategy_ok (g : Gm) (s : Int × List (List Int)) (hg : gameL g) (hs : rowsL s.2) : Pure Tryd.prog 49 [gameT g, stratT s] (.b (strB g s)) := by
  refine fun_impl_IsStrategy (by simp) ?_
  simp -implicitDefEqProofs only [go_sem, evR, ints, rows, rat, rats, c_impl_IsStrategy, gameT, stratT, nodes]
  refine CallW.pure (isGame_t (impl_IsGame_ok g hg)) [] rfl Tryd.call23 ?_ (by first | trivial | simp [T.noSh, T.noShL, rat]) rfl ?_
  · simp -implicitDefEqProofs only [agR, Nat.reduceLeDiff, Nat.reduceSub, vaR, go_sem, ints, rows, rat, rats, ratsO, rtR, intsO, rowsO]
  simp -implicitDefEqProofs only [go_sem, evR, ints, rows, rat, rats]
  refine ⟨fun h1 => ?_, fun h1 => ?_⟩
  rotate_left
  · have h1 : isGameB g = false := by simpa using h1
    rw [strB, h1]; rfl
  have h1 : isGameB g = true := by simpa using h1
  refine CallW.pure (impl_within_ok s.1 0 1) [] rfl Tryd.call44 ?_ (by first | trivial | simp [T.noSh, T.noShL, rat]) rfl ?_
  · simp -implicitDefEqProofs only [agR, Nat.reduceLeDiff, Nat.reduceSub, vaR, go_sem, ints, rows, rat, rats, ratsO, rtR, intsO, rowsO]
  simp -implicitDefEqProofs only [go_sem, evR, ints, rows, rat, rats]
  refine ⟨fun h2 => ?_, fun h2 => ?_⟩
  · have h2 := bnT h2
    rw [strB, h2, Bool.and_false]; rfl
  have h2 := bnF h2
  have hst := impl_isStrategy_ok g s h1 hs
  simp only [gameT, stratT, nodes, rows] at hst
  refine CallW.pure hst [] rfl Tryd.call69 ?_ (by first | trivial | simp [T.noSh, T.noShL, rat]) rfl ?_
  · simp -implicitDefEqProofs only [agR, Nat.reduceLeDiff, Nat.reduceSub, vaR, go_sem, ints, rows, rat, rats, ratsO, rtR, intsO, rowsO]
  simp -implicitDefEqProofs only [go_sem, evR, ints, rows, rat, rats]
  rw [strB, h1, h2]; rfl
set_option maxRecDepth 20000 in
theorem spec_IsStrategy_ok (g : Gm) (s : Int × List (List Int)) (hg : gameL g) (hs : rowsL s.2) : Pure Tryd.prog 35 [gameT g, stratT s] (.b (strB g s)) := by
  refine fun_spec_IsStrategy (by simp) ?_
  simp -implicitDefEqProofs only [go_sem, evR, ints, rows, rat, rats, c_spec_IsStrategy, gameT, stratT, nodes]
  refine CallW.pure (isGame_t (spec_IsGame_ok g hg)) [] rfl Tryd.call33 ?_ (by first | trivial | simp [T.noSh, T.noShL, rat]) rfl ?_
  · simp -implicitDefEqProofs only [agR, Nat.reduceLeDiff, Nat.reduceSub, vaR, go_sem, ints, rows, rat, rats, ratsO, rtR, intsO, rowsO]
  simp -implicitDefEqProofs only [go_sem, evR, ints, rows, rat, rats]
  refine ⟨fun h1 => ?_, fun h1 => ?_⟩
  rotate_left
  · have h1 : isGameB g = false := by simpa using h1
    rw [strB, h1]; rfl
  have h1 : isGameB g = true := by simpa using h1
  refine CallW.pure (spec_l01In_ok s.1 0 1) [] rfl Tryd.call61 ?_ (by first | trivial | simp [T.noSh, T.noShL, rat]) rfl ?_
  · simp -implicitDefEqProofs only [agR, Nat.reduceLeDiff, Nat.reduceSub, vaR, go_sem, ints, rows, rat, rats, ratsO, rtR, intsO, rowsO]
  simp -implicitDefEqProofs only [go_sem, evR, ints, rows, rat, rats]
  refine ⟨fun h2 => ?_, fun h2 => ?_⟩
  · have h2 := bnT h2
    rw [strB, h2, Bool.and_false]; rfl
  have h2 := bnF h2
  have hstr : strB g s = isStratB g s.1 s.2 := by rw [strB, h1, h2]; rfl
  rw [hstr]
  obtain ⟨pl, pt⟩ := s
  obtain ⟨hs1, hs2⟩ := hs
  (try simp only [] at hs1 hs2 h2 ⊢)
  obtain ⟨p1, p2, p3, p4, p5⟩ := isGameB_parts h1
  obtain ⟨t1, t2, t3, t4⟩ := isTreeB_spec p1
  have hnl : ∀ {n : Nat} {x : Nd}, g.nd[n]? = some x → x.ch.length ≤ 4 := fun hx => (ndOK_fields (t2 _ _ hx)).2.2.2.2.2
  have hsl := sets_len g pl t1.2 p2.2
  refine CallW.res (l21Sets_t g pl t1.2 p2.2) [] rfl Tryd.call36 ?_ (.inl rfl) ?_
  · simp -implicitDefEqProofs only [agR, Nat.reduceLeDiff, Nat.reduceSub, vaR, go_sem, ints, rows, rat, rats, ratsO, rtR, intsO, rowsO]
  simp -implicitDefEqProofs only [clR, Nat.reduceLeDiff, go_sem, evR, rat, rowsO]
  refine ⟨fun h3 => ?_, fun h3 => ?_⟩
  · have h3 : ¬ pt.length = (sets g pl).length := by simp at h3; omega
    rw [isStratB_no fun h => h3 h.1]
  have h3 : pt.length = (sets g pl).length := by simp at h3; omega
  refine SemC.loopR (σ := Nat) (fun i => St.of [(2, .own 2), (3, .own 3), (5, .t (rows (sets g pl))), (6, .t (.i i))] [(2, .box [nodes g.nd, rows g.w, rows g.v]), (3, .box [.i pl, rows pt])]) (fun i => i ≤ (sets g pl).length ∧ ∀ j, j < i → partOK (sizeAt g pl j) (pt.getD j []) = true) (fun i => (sets g pl).length - i) 0 (Weak.trans (Weak.share 20 rfl) (Weak.of _ _ [some 2, some 3] (by simp) (by simp) ?_ ?_)) ⟨by omega, fun j hj => by omega⟩ fun i hI R hn hr he => ?_
  · simp -implicitDefEqProofs only [ints, rows, Nat.reduceBEq, wkR, Nat.reduceEqDiff, ↓reduceIte, wrR, shareA, arr_toSh, nodes]
  · exact ⟨⟨_, rfl, .refl _⟩, rfl, ⟨_, rfl, .refl _⟩, rfl, trivial⟩
  · obtain ⟨hi, hok⟩ := hI
    rcases Nat.lt_or_ge i (sets g pl).length with h9 | h9
    · obtain ⟨n, c, x, hx1, hx2, hx3, hx4, hx5, hx6⟩ := set_elem h9
      obtain ⟨r, hr1⟩ : ∃ r, pt[i]? = some r := ⟨_, List.getElem?_eq_getElem (by omega)⟩
      have hrd : pt.getD i [] = r := by rw [List.getD_eq_getElem?_getD, hr1]; rfl
      have hno : ¬ partOK x.ch.length r = true → isStratB g pl pt = false := fun hc => isStratB_no fun h => hc (by have := h.2 i h9; rwa [hx6, hrd] at this)
      have hxl := hnl hx2
      simp -implicitDefEqProofs only [go_sem, evR, ints, rows, rat, rats, nodes, hx1, hr1, nd_get4 hx2, decide_eq_true (show (i : Int) < ((sets g pl).length : Int) by omega)]
      refine ⟨by omega, by omega, by omega, by omega, by omega, by omega, by omega, by rw [nd_len]; omega, by rw [nd_len]; omega, fun h4 => hr _ ?_, fun h4 => ?_⟩
      · simp -implicitDefEqProofs only [go_sem, evR, ints, rows, rat, rats]
        rw [hno fun h => by have := (partOK_iff.1 h).1; simp at h4; omega]
      have h4 : r.length = x.ch.length := by simp at h4; omega
      refine SemC.loopR (σ := Nat) (fun k => St.of [(2, .own 2), (3, .own 3), (5, .t (rows (sets g pl))), (6, .t (.i i)), (7, .t (.i k))] [(2, .box [nodes g.nd, rows g.w, rows g.v]), (3, .box [.i pl, rows pt])]) (fun k => k ≤ r.length ∧ ∀ t y, t < k → r[t]? = some y → 0 ≤ y ∧ y ≤ 60) (fun k => r.length - k) 0 (Weak.of _ _ [some 2, some 3] (by simp) (by simp) ?_ ?_) ⟨by omega, fun t y ht => by omega⟩ fun k hK R2 hn2 hr2 he2 => ?_
      · simp -implicitDefEqProofs only [ints, rows, Nat.reduceBEq, wkR, Nat.reduceEqDiff, ↓reduceIte, wrR, nodes]
      · exact ⟨⟨_, rfl, .refl _⟩, rfl, ⟨_, rfl, .refl _⟩, rfl, trivial⟩
      · obtain ⟨hk, hels⟩ := hK
        rcases Nat.lt_or_ge k r.length with h8 | h8
        · obtain ⟨y, hy⟩ : ∃ y, r[k]? = some y := ⟨_, List.getElem?_eq_getElem h8⟩
          simp -implicitDefEqProofs only [go_sem, evR, ints, rows, rat, rats, nodes, hr1, hy, decide_eq_true (show (k : Int) < (r.length : Int) by omega)]
          refine ⟨by omega, by omega, by omega, by omega, by omega, by omega, by omega, by omega, by omega, ?_⟩
          refine CallW.pure (spec_l01In_ok y 0 60) [] rfl Tryd.call61 ?_ (by first | trivial | simp [T.noSh, T.noShL, rat]) rfl ?_
          · simp -implicitDefEqProofs only [agR, Nat.reduceLeDiff, Nat.reduceSub, vaR, go_sem, ints, rows, rat, rats, ratsO, rtR, intsO, rowsO]
          simp -implicitDefEqProofs only [go_sem, evR, ints, rows, rat, rats]
          refine ⟨fun h5 => hr2 _ ?_, fun h5 => hn2 _ (k + 1) (Weak.of _ _ [some 2, some 3] (by simp) (by simp) ?_ ?_) ⟨by omega, fun t z ht hz => ?_⟩ (by omega)⟩
          · simp -implicitDefEqProofs only [go_sem, evR, ints, rows, rat, rats]
            refine hr _ ?_
            simp -implicitDefEqProofs only [go_sem, evR, ints, rows, rat, rats]
            rw [hno fun h => by have := List.all_eq_true.1 (partOK_iff.1 h).2.1 y (List.mem_of_getElem? hy); rw [bnT h5] at this; simp at this]
          · simp -implicitDefEqProofs only [ints, rows, Nat.reduceBEq, wkR, Nat.reduceEqDiff, ↓reduceIte, wrR, nodes, next64 h8 (by omega)]
          · exact ⟨⟨_, rfl, .refl _⟩, rfl, ⟨_, rfl, .refl _⟩, rfl, trivial⟩
          · by_cases htk : t = k
            · subst htk; rw [hy] at hz; cases hz
              simpa using bnF h5
            · exact hels t z (by omega) hz
        · simp -implicitDefEqProofs only [go_sem, evR, ints, rows, rat, rats, nodes, hr1, decide_eq_false (show ¬ (k : Int) < (r.length : Int) by omega)]
          refine ⟨by omega, by omega, by omega, he2 _ _ ?_⟩
          have hall : (r.all fun x => decide (0 ≤ x ∧ x ≤ 60)) = true := List.all_eq_true.2 fun z hz => by
            obtain ⟨u, hu, rfl⟩ := List.mem_iff_getElem.1 hz
            exact decide_eq_true (hels u _ (by omega) (List.getElem?_eq_getElem hu))
          simp -implicitDefEqProofs only [go_sem, evR, ints, rows, rat, rats, nodes, hr1]
          refine ⟨by omega, by omega, by omega, ?_⟩
          refine CallW.pure (spec_l01Sum_ok r (all60_small hall (by omega))) [] rfl Tryd.call64 ?_ (by first | trivial | simp [T.noSh, T.noShL, rat]) rfl ?_
          · simp -implicitDefEqProofs only [agR, Nat.reduceLeDiff, Nat.reduceSub, vaR, go_sem, ints, rows, rat, rats, ratsO, rtR, intsO, rowsO]
          simp -implicitDefEqProofs only [go_sem, evR, ints, rows, rat, rats]
          refine ⟨fun h5 => hr _ ?_, fun h5 => hn _ (i + 1) (Weak.of _ _ [some 2, some 3] (by simp) (by simp) ?_ ?_) ⟨by omega, fun j hj => ?_⟩ (by omega)⟩
          · simp -implicitDefEqProofs only [go_sem, evR, ints, rows, rat, rats]
            rw [hno fun h => by have := (partOK_iff.1 h).2.2; simp at h5; omega]
          · simp -implicitDefEqProofs only [ints, rows, Nat.reduceBEq, wkR, Nat.reduceEqDiff, ↓reduceIte, wrR, nodes, next64 h9 (by omega)]
          · exact ⟨⟨_, rfl, .refl _⟩, rfl, ⟨_, rfl, .refl _⟩, rfl, trivial⟩
          · by_cases hji : j = i
            · subst hji; rw [hx6, hrd]; exact partOK_iff.2 ⟨h4, hall, by simpa using h5⟩
            · exact hok j (by omega)
    · simp -implicitDefEqProofs only [go_sem, evR, ints, rows, rat, rats, nodes, decide_eq_false (show ¬ (i : Int) < ((sets g pl).length : Int) by omega)]
      refine he _ _ ?_
      simp -implicitDefEqProofs only [go_sem, evR, ints, rows, rat, rats]
      rw [isStratB_iff.2 ⟨h3, fun j hj => hok j (by omega)⟩]
end
end Go.Ab

/- Contracts: payoffs, powers, units, places of sets. -/
set_option linter.unusedSimpArgs false
set_option linter.unusedVariables false
namespace Go.Ab
open Go.Proofs

theorem pay_eq {g : Gm} {i a b : Nat} {x : Nd} {r : List Int} {y : Int} (hx : g.nd[i]? = some x) (hr : g.v[a]? = some r) (hy : r[b]? = some y) : pay g i a b = if (if x.f = 0 then -1 else if x.f = 1 then 1 else y) = 1 then x.b else if (if x.f = 0 then -1 else if x.f = 1 then 1 else y) = -1 then -x.a else 0 := by
  have e1 : g.nd.getD i nd0 = x := by rw [List.getD_eq_getElem?_getD, hx]; rfl
  have e2 : (g.v.getD a []).getD b 0 = y := by rw [List.getD_eq_getElem?_getD, List.getD_eq_getElem?_getD, hr, Option.getD_some, hy]; rfl
  rw [pay, e1, e2]
theorem game_row {g : Gm} (hg : isGameB g = true) {a b : Nat} (ha : a < g.w.length) (hb : b < g.w.length) : ∃ r y, g.v[a]? = some r ∧ r[b]? = some y := by
  obtain ⟨h1, h2⟩ := matK_iff.1 (isGameB_parts hg).2.2.2.1
  have hx := List.getElem?_eq_getElem (show a < g.v.length by omega)
  have h3 := (h2 _ (List.getElem_mem (show a < g.v.length by omega))).1
  exact ⟨_, _, hx, List.getElem?_eq_getElem (by omega)⟩
theorem game_w {g : Gm} (hg : isGameB g = true) {a b : Nat} (ha : a < g.w.length) (hb : b < g.w.length) : ∃ r y, g.w[a]? = some r ∧ r[b]? = some y ∧ 0 ≤ y ∧ y ≤ 9 := by
  obtain ⟨h1, h2⟩ := matK_iff.1 (isGameB_parts hg).2.2.1
  have hx := List.getElem?_eq_getElem ha
  obtain ⟨h3, h4⟩ := h2 _ (List.getElem_mem ha)
  have hl : b < g.w[a].length := by omega
  exact ⟨_, _, hx, List.getElem?_eq_getElem hl, h4 _ (List.getElem_mem hl)⟩
theorem pw_le : ∀ {p q : Nat}, p ≤ q → pw p ≤ pw q := by
  intro p q h
  induction h with
  | refl => exact Int.le_refl _
  | step h ih => rw [pw_succ]; have := pw_pos (p := ‹Nat›); omega
def unit (g : Gm) : Int := totW g.w * pw (dpt g)
section
attribute [-go_sem] load1C load1V fldC lenC idxC loadNV
set_option maxRecDepth 20000 in
theorem impl_payoffAt_ok (g : Gm) (hg : isGameB g = true) (i a b : Nat) (hi : i < g.nd.length) (ha : a < g.w.length) (hb : b < g.w.length) : Pure Tryd.prog 85 [gameT g, .i i, .i a, .i b] (.i (pay g i a b)) := by
  obtain ⟨p1, p2, p3, p4, p5⟩ := isGameB_parts hg
  obtain ⟨t1, t2, t3, t4⟩ := isTreeB_spec p1
  obtain ⟨x, hx⟩ : ∃ x, g.nd[i]? = some x := ⟨_, List.getElem?_eq_getElem hi⟩
  obtain ⟨r, y, hr, hy⟩ := game_row hg ha hb
  have hf := ndOK_fields (t2 _ _ hx)
  have hal := (List.getElem?_eq_some_iff.1 hr).1
  have hbl := (List.getElem?_eq_some_iff.1 hy).1
  rw [pay_eq hx hr hy]
  refine fun_impl_payoffAt (by simp) ?_
  simp -implicitDefEqProofs only [go_sem, evR, ints, rows, rat, rats, c_impl_payoffAt, gameT, nodes, nd_at hx, hr, hy]
  refine ⟨by omega, by rw [nd_len]; omega, by rw [nd_len]; omega, by omega, by omega, by omega, by omega, by omega, by omega, ?_⟩
  rw [wrap64 (n := 0 - x.a) (by omega) (by omega), Int.zero_sub]
  by_cases h0 : x.f = 0
  · simp [h0]
  · by_cases h1 : x.f = 1
    · simp [h1]
    · by_cases h2 : y = 1
      · simp [h0, h1, h2]
      · by_cases h3 : y = -1 <;> simp [h0, h1, h2, h3]
set_option maxRecDepth 20000 in
theorem spec_l21Payoff_ok (g : Gm) (hg : isGameB g = true) (i a b : Nat) (hi : i < g.nd.length) (ha : a < g.w.length) (hb : b < g.w.length) : Pure Tryd.prog 98 [gameT g, .i i, .i a, .i b] (.i (pay g i a b)) := by
  obtain ⟨p1, p2, p3, p4, p5⟩ := isGameB_parts hg
  obtain ⟨t1, t2, t3, t4⟩ := isTreeB_spec p1
  obtain ⟨x, hx⟩ : ∃ x, g.nd[i]? = some x := ⟨_, List.getElem?_eq_getElem hi⟩
  obtain ⟨r, y, hr, hy⟩ := game_row hg ha hb
  have hf := ndOK_fields (t2 _ _ hx)
  have hal := (List.getElem?_eq_some_iff.1 hr).1
  have hbl := (List.getElem?_eq_some_iff.1 hy).1
  rw [pay_eq hx hr hy]
  refine fun_spec_l21Payoff (by simp) ?_
  simp -implicitDefEqProofs only [go_sem, evR, ints, rows, rat, rats, c_spec_l21Payoff, gameT, nodes, nd_at hx, hr, hy]
  refine ⟨by omega, by rw [nd_len]; omega, by rw [nd_len]; omega, by omega, by omega, by omega, by omega, by omega, by omega, ?_⟩
  rw [wrap64 (n := 0 - x.a) (by omega) (by omega), Int.zero_sub]
  by_cases h0 : x.f = 0
  · simp [h0]
  · by_cases h1 : x.f = 1
    · simp [h1]
    · by_cases h2 : y = 1
      · simp [h0, h1, h2]
      · by_cases h3 : y = -1 <;> simp [h0, h1, h2, h3]
theorem impl_powerOf_ok (p : Nat) (hp : p ≤ 8) : Pure Tryd.prog 55 [.i 60, .i p] (.i (pw p)) := by
  refine fun_impl_powerOf (by simp) ?_
  simp -implicitDefEqProofs only [go_sem, evR, ints, rows, rat, rats, c_impl_powerOf]
  refine SemC.loopR (σ := Nat) (fun i => St.of [(0, .t (.i 60)), (5, .t (.i (pw i))), (6, .t (.i p)), (7, .t (.i i))] []) (fun i => i ≤ p) (fun i => p - i) 0 (Weak.of _ [] [] (by simp) (by simp) ?_ trivial) (by omega) fun i hi R hn hr he => ?_
  · simp -implicitDefEqProofs only [ints, rows, Nat.reduceBEq, wkR, Nat.reduceEqDiff, ↓reduceIte, wrR, show pw 0 = 1 from rfl]
  · rcases Nat.lt_or_ge i p with h9 | h9
    · simp -implicitDefEqProofs only [go_sem, evR, ints, rows, rat, rats, decide_eq_true (show (i : Int) < (p : Int) by omega)]
      have hb := pw_le (show i + 1 ≤ 8 by omega)
      have hb0 := pw_pos (p := i + 1)
      have hb8 : pw 8 = 167961600000000 := by decide
      have e : pw i * 60 = pw (i + 1) := by rw [pw_succ, Int.mul_comm]
      refine hn _ (i + 1) (Weak.of _ [] [] (by simp) (by simp) ?_ trivial) (by omega) (by omega)
      simp -implicitDefEqProofs only [ints, rows, Nat.reduceBEq, wkR, Nat.reduceEqDiff, ↓reduceIte, wrR, next64 h9 (by omega), e, wrap64 (n := pw (i + 1)) (by omega) (by omega)]
    · simp -implicitDefEqProofs only [go_sem, evR, ints, rows, rat, rats, decide_eq_false (show ¬ (i : Int) < (p : Int) by omega)]
      refine he _ _ ?_
      simp -implicitDefEqProofs only [go_sem, evR, ints, rows, rat, rats]
      rw [show i = p by omega]
theorem spec_l23Power_ok (p : Nat) (hp : p ≤ 8) : Pure Tryd.prog 39 [.i p] (.i (pw p)) := by
  refine fun_spec_l23Power (by simp) ?_
  simp -implicitDefEqProofs only [go_sem, evR, ints, rows, rat, rats, c_spec_l23Power]
  refine SemC.loopR (σ := Nat) (fun i => St.of [(0, .t (.i ((p - i : Nat) : Int))), (3, .t (.i (pw i)))] []) (fun i => i ≤ p) (fun i => p - i) 0 (Weak.of _ [] [] (by simp) (by simp) ?_ trivial) (by omega) fun i hi R hn hr he => ?_
  · simp -implicitDefEqProofs only [ints, rows, Nat.reduceBEq, wkR, Nat.reduceEqDiff, ↓reduceIte, wrR, show pw 0 = 1 from rfl, Nat.sub_zero]
  · rcases Nat.lt_or_ge i p with h9 | h9
    · simp -implicitDefEqProofs only [go_sem, evR, ints, rows, rat, rats, decide_eq_true (show ((p - i : Nat) : Int) > 0 by omega)]
      have hb := pw_le (show i + 1 ≤ 8 by omega)
      have hb0 := pw_pos (p := i + 1)
      have hb8 : pw 8 = 167961600000000 := by decide
      have e : pw i * 60 = pw (i + 1) := by rw [pw_succ, Int.mul_comm]
      refine hn _ (i + 1) (Weak.of _ [] [] (by simp) (by simp) ?_ trivial) (by omega) (by omega)
      simp -implicitDefEqProofs only [ints, rows, Nat.reduceBEq, wkR, Nat.reduceEqDiff, ↓reduceIte, wrR, e, wrap64 (n := pw (i + 1)) (by omega) (by omega), wrap64 (n := ((p - (i + 1) : Nat) : Int)) (by omega) (by omega), show ((p - i : Nat) : Int) - 1 = ((p - (i + 1) : Nat) : Int) by omega]
    · simp -implicitDefEqProofs only [go_sem, evR, ints, rows, rat, rats, decide_eq_false (show ¬ ((p - i : Nat) : Int) > 0 by omega)]
      refine he _ _ ?_
      simp -implicitDefEqProofs only [go_sem, evR, ints, rows, rat, rats]
      rw [show i = p by omega]
theorem tot_t {f : FuncId} {g : Gm} {n : Int} (h : Pure Tryd.prog f [gameT g] (.i n)) : Pure Tryd.prog f [.agg [.sh 5 (chunk nodeC g.nd), .sh 1 (g.w.map ints), .sh 1 (g.v.map ints)]] (.i n) := h
theorem dep_t {f : FuncId} {l : List Nd} {i n : Int} (h : Pure Tryd.prog f [treeT l, .i i] (.i n)) : Pure Tryd.prog f [.agg [.sh 5 (chunk nodeC l)], .i i] (.i n) := h
theorem game_unit {g : Gm} (hg : isGameB g = true) : smallW g.w ∧ dep g.nd g.nd.length 0 = (dpt g : Nat) ∧ dpt g ≤ 5 ∧ 0 ≤ totW g.w ∧ totW g.w ≤ 324 ∧ 1 ≤ pw (dpt g) ∧ pw (dpt g) ≤ 777600000 := by
  obtain ⟨p1, p2, p3, p4, p5⟩ := isGameB_parts hg
  obtain ⟨t1, t2, t3, t4⟩ := isTreeB_spec p1
  have hs := smallW_of p3 p2.2
  have hd0 := dep_nonneg (l := g.nd) g.nd.length 0
  have hd : dpt g ≤ 5 := by unfold dpt; omega
  have hb := totW_bound hs g.w.length
  rw [List.take_length] at hb
  have h1 := pw_le hd
  have h2 := pw_pos (p := dpt g)
  have h5 : pw 5 = 777600000 := by decide
  exact ⟨hs, by unfold dpt; omega, hd, hb.1, hb.2, by omega, by omega⟩
theorem unit_bound {g : Gm} (hg : isGameB g = true) : 0 ≤ unit g ∧ unit g ≤ 251942400000 := by
  obtain ⟨h1, h2, h3, h4, h5, h6, h7⟩ := game_unit hg
  refine ⟨Int.mul_nonneg h4 (by omega), ?_⟩
  have := Int.mul_le_mul h5 h7 (by omega) (by omega : (0 : Int) ≤ 324)
  unfold unit; omega
set_option maxRecDepth 20000 in
theorem impl_unitOf_ok (g : Gm) (hg : isGameB g = true) : Pure Tryd.prog 27 [gameT g] (.i (unit g)) := by
  obtain ⟨p1, p2, p3, p4, p5⟩ := isGameB_parts hg
  obtain ⟨t1, t2, t3, t4⟩ := isTreeB_spec p1
  obtain ⟨h1, h2, h3, h4, h5, h6, h7⟩ := game_unit hg
  have hub := unit_bound hg
  have hdep := dep_t (impl_depthFrom_ok t2 (by omega) g.nd.length 0 (by omega) (by omega) (by omega))
  rw [h2] at hdep
  refine fun_impl_unitOf (by simp) ?_
  simp -implicitDefEqProofs only [go_sem, evR, ints, rows, rat, rats, c_impl_unitOf, gameT, nodes]
  refine CallV.pure (tot_t (impl_totalWeight_ok g h1)) [] rfl Tryd.call46 (fun e R' hR => ?_) (by first | trivial | simp [T.noSh, T.noShL, rat]) (fun _ => rfl) ?_
  · simp -implicitDefEqProofs only [agR, Nat.reduceLeDiff, Nat.reduceSub, vaR, go_sem, ints, rows, rat, rats, ratsO, rtR, intsO, rowsO]
  simp -implicitDefEqProofs only [go_sem, evR, ints, rows, rat, rats]
  refine CallV.pure hdep [] rfl Tryd.call56 (fun e R' hR => ?_) (by first | trivial | simp [T.noSh, T.noShL, rat]) (fun _ => rfl) ?_
  · simp -implicitDefEqProofs only [agR, Nat.reduceLeDiff, Nat.reduceSub, vaR, go_sem, ints, rows, rat, rats, ratsO, rtR, intsO, rowsO]
  simp -implicitDefEqProofs only [go_sem, evR, ints, rows, rat, rats]
  refine CallV.pure (impl_powerOf_ok (dpt g) (by omega)) [] rfl Tryd.call55 (fun e R' hR => ?_) (by first | trivial | simp [T.noSh, T.noShL, rat]) (fun _ => rfl) ?_
  · simp -implicitDefEqProofs only [agR, Nat.reduceLeDiff, Nat.reduceSub, vaR, go_sem, ints, rows, rat, rats, ratsO, rtR, intsO, rowsO]
  simp -implicitDefEqProofs only [go_sem, evR, ints, rows, rat, rats]
  rw [wrap64 (n := totW g.w * pw (dpt g)) (by unfold unit at hub; omega) (by unfold unit at hub; omega)]; rfl
set_option maxRecDepth 20000 in
theorem spec_l23Unit_ok (g : Gm) (hg : isGameB g = true) : Pure Tryd.prog 19 [gameT g] (.i (unit g)) := by
  obtain ⟨p1, p2, p3, p4, p5⟩ := isGameB_parts hg
  obtain ⟨t1, t2, t3, t4⟩ := isTreeB_spec p1
  obtain ⟨h1, h2, h3, h4, h5, h6, h7⟩ := game_unit hg
  have hub := unit_bound hg
  have hdep := dep_t (spec_l20Depth_ok t2 (by omega) g.nd.length 0 (by omega) (by omega) (by omega))
  rw [h2] at hdep
  refine fun_spec_l23Unit (by simp) ?_
  simp -implicitDefEqProofs only [go_sem, evR, ints, rows, rat, rats, c_spec_l23Unit, gameT, nodes]
  refine CallV.pure (tot_t (spec_l21Total_ok g h1)) [] rfl Tryd.call38 (fun e R' hR => ?_) (by first | trivial | simp [T.noSh, T.noShL, rat]) (fun _ => rfl) ?_
  · simp -implicitDefEqProofs only [agR, Nat.reduceLeDiff, Nat.reduceSub, vaR, go_sem, ints, rows, rat, rats, ratsO, rtR, intsO, rowsO]
  simp -implicitDefEqProofs only [go_sem, evR, ints, rows, rat, rats]
  refine CallV.pure hdep [] rfl Tryd.call40 (fun e R' hR => ?_) (by first | trivial | simp [T.noSh, T.noShL, rat]) (fun _ => rfl) ?_
  · simp -implicitDefEqProofs only [agR, Nat.reduceLeDiff, Nat.reduceSub, vaR, go_sem, ints, rows, rat, rats, ratsO, rtR, intsO, rowsO]
  simp -implicitDefEqProofs only [go_sem, evR, ints, rows, rat, rats]
  refine CallV.pure (spec_l23Power_ok (dpt g) (by omega)) [] rfl Tryd.call39 (fun e R' hR => ?_) (by first | trivial | simp [T.noSh, T.noShL, rat]) (fun _ => rfl) ?_
  · simp -implicitDefEqProofs only [agR, Nat.reduceLeDiff, Nat.reduceSub, vaR, go_sem, ints, rows, rat, rats, ratsO, rtR, intsO, rowsO]
  simp -implicitDefEqProofs only [go_sem, evR, ints, rows, rat, rats]
  rw [wrap64 (n := totW g.w * pw (dpt g)) (by unfold unit at hub; omega) (by unfold unit at hub; omega)]; rfl
theorem idxs_before {l : List Nd} {pl : Int} {i n : Nat} (hi : i < n) (hp : (l.getD i nd0).p = pl) {j : Nat} {y : Int} (hj : j ≤ (idxs l pl i).length) (hy : (idxs l pl n)[j]? = some y) : (y = i ↔ j = (idxs l pl i).length) := by
  obtain ⟨rest, e⟩ := idxs_split l pl hp n hi
  rw [e] at hy
  rcases Nat.lt_or_ge j (idxs l pl i).length with h | h
  · rw [List.getElem?_append_left h] at hy
    obtain ⟨k, rfl, hk, _⟩ := idxs_mem (List.mem_of_getElem? hy)
    constructor
    · intro h1; omega
    · intro h1; omega
  · rw [List.getElem?_append_right h, show j - (idxs l pl i).length = 0 by omega] at hy
    have : (i : Int) = y := by simpa using hy
    constructor
    · intro; omega
    · intro; omega
theorem idxs_lt {l : List Nd} {pl : Int} {i n : Nat} (hi : i < n) (hp : (l.getD i nd0).p = pl) : (idxs l pl i).length < (idxs l pl n).length := by
  obtain ⟨rest, e⟩ := idxs_split l pl hp n hi
  rw [e]; simp
set_option maxRecDepth 20000 in
theorem spec_l23Set_ok (g : Gm) (hg : isGameB g = true) (pl : Int) (i c : Nat) (hi : i < g.nd.length) (hp : (g.nd.getD i nd0).p = pl) (hc : c < g.w.length) : Pure Tryd.prog 99 [gameT g, .i pl, .i i, .i c] (.i (setI g pl i c)) := by
  obtain ⟨p1, p2, p3, p4, p5⟩ := isGameB_parts hg
  obtain ⟨t1, t2, t3, t4⟩ := isTreeB_spec p1
  have hlt := idxs_lt hi hp
  have hbf : ∀ {j : Nat} {y : Int}, j ≤ (idxs g.nd pl i).length → (idxs g.nd pl g.nd.length)[j]? = some y → (y = i ↔ j = (idxs g.nd pl i).length) := fun hj hy => idxs_before hi hp hj hy
  have hlen := idxs_length g.nd pl g.nd.length
  refine fun_spec_l23Set (by simp) ?_
  simp -implicitDefEqProofs only [go_sem, evR, ints, rows, rat, rats, c_spec_l23Set, gameT, nodes]
  refine CallW.res (spec_l20Of_t g.nd pl (by omega)) [] rfl Tryd.call65 ?_ (.inl rfl) ?_
  · simp -implicitDefEqProofs only [agR, Nat.reduceLeDiff, Nat.reduceSub, vaR, go_sem, ints, rows, rat, rats, ratsO, rtR, intsO, rowsO]
  simp -implicitDefEqProofs only [clR, Nat.reduceLeDiff, go_sem, evR, rat, intsO]
  unfold setI
  generalize idxs g.nd pl g.nd.length = ns at hlt hbf hlen ⊢
  generalize hm : (idxs g.nd pl i).length = m at hlt hbf ⊢
  refine SemC.loopR (σ := Nat) (fun j => St.of [(2, .t (.i i)), (3, .t (.i c)), (4, .own 4), (9, .own 14), (10, .t (.i j))] [(4, .box [nodes g.nd, rows g.w, rows g.v]), (14, intsO ns)]) (fun j => j ≤ m) (fun j => m - j) 0 (Weak.of _ _ [some 4, some 14] (by simp) (by simp) ?_ ?_) (by omega) fun j hj R hn hr he => ?_
  · simp -implicitDefEqProofs only [ints, rows, Nat.reduceBEq, wkR, Nat.reduceEqDiff, ↓reduceIte, wrR, nodes]
  · exact ⟨⟨_, rfl, .refl _⟩, rfl, ⟨_, rfl, .refl _⟩, rfl, trivial⟩
  · obtain ⟨y, hy⟩ : ∃ y, ns[j]? = some y := ⟨_, List.getElem?_eq_getElem (by omega)⟩
    have hiff := hbf hj hy
    have hmul : j * g.w.length ≤ 60 * 6 := Nat.mul_le_mul (by omega) p2.2
    have hcast : (j : Int) * (g.w.length : Int) = ((j * g.w.length : Nat) : Int) := by rw [Int.natCast_mul]
    simp -implicitDefEqProofs only [go_sem, evR, ints, rows, rat, rats, nodes, intsO, hy, decide_eq_true (show (j : Int) < (ns.length : Int) by omega)]
    refine ⟨by omega, by omega, by omega, fun h1 => hr _ ?_, fun h1 => hn _ (j + 1) (Weak.of _ _ [some 4, some 14] (by simp) (by simp) ?_ ?_) ?_ ?_⟩
    · have h1 : j = m := hiff.1 (by simpa using h1)
      simp -implicitDefEqProofs only [go_sem, evR, ints, rows, rat, rats, hcast, wrap64 (n := ((j * g.w.length : Nat) : Int)) (by omega) (by omega), wrap64 (n := ((j * g.w.length : Nat) : Int) + (c : Int)) (by omega) (by omega)]
      rw [h1]; rfl
    · simp -implicitDefEqProofs only [ints, rows, Nat.reduceBEq, wkR, Nat.reduceEqDiff, ↓reduceIte, wrR, nodes, intsO, next64 (show j < ns.length by omega) (by omega)]
    · exact ⟨⟨_, rfl, .refl _⟩, rfl, ⟨_, rfl, .refl _⟩, rfl, trivial⟩
    · have h1 : ¬ j = m := fun h => by have := hiff.2 h; simp at h1; omega
      omega
    · have h1 : ¬ j = m := fun h => by have := hiff.2 h; simp at h1; omega
      omega
end
end Go.Ab

/- Contracts: HalvedWeights. -/
set_option linter.unusedSimpArgs false
set_option linter.unusedVariables false
namespace Go.Ab
open Go.Proofs

def mx0 (l : List Int) : Int := l.foldl max 0
def half (l : List Int) : List Int := l.map fun x => x / 2
def hvd : Nat → List Int → List Int
  | 0, l => l
  | f + 1, l => if mx0 l ≤ 1000000000 then l else hvd f (half l)

def W (f : Nat) : Int := ((2 ^ (29 + f) : Nat) : Int)
def hw (l : List Int) : List Int × Int := if 1 ≤ l.length ∧ l.length ≤ 4 ∧ ∀ x ∈ l, 0 ≤ x then (hvd 34 l, 0) else ([], 2)
end Go.Ab


/- The law FnExactSaddlePoint, as a contract. -/
set_option linter.unusedSimpArgs false
set_option linter.unusedVariables false
namespace Go.Ab
open Go.Proofs

end Go.Ab

/- Contracts: marks of lists of rows. -/
set_option linter.unusedSimpArgs false
set_option linter.unusedVariables false
namespace Go.Ab
open Go.Proofs

def tot : List (List Int) → Nat
  | [] => 0
  | r :: m => r.length + tot m
theorem tot_mem : ∀ {m : List (List Int)} {r : List Int}, r ∈ m → r.length ≤ tot m
  | r' :: m, r, h => by
    rcases List.mem_cons.1 h with rfl | h
    · simp [tot]
    · have := tot_mem h; simp only [tot]; omega

end Go.Ab

/- The law FnExactDominatedRows, as a contract. -/
set_option linter.unusedSimpArgs false
set_option linter.unusedVariables false
namespace Go.Ab
open Go.Proofs

theorem budgetRows_tot : ∀ {m : List (List Int)} {left : Int}, 0 ≤ left → 0 ≤ budgetRows m left → (tot m : Int) ≤ left
  | [], left, _, _ => by simp [tot]; assumption
  | x :: m, left, h0, h => by
    simp only [budgetRows] at h
    split at h
    · omega
    · have := budgetRows_tot (by omega) h
      simp only [tot]; omega
theorem budgetMat_tot {m : List (List Int)} {left : Int} (h0 : 0 ≤ left) (h : 0 ≤ budgetMat m left) : (tot m : Int) ≤ left := by
  simp only [budgetMat] at h
  split at h
  · omega
  · have := budgetRows_tot (by omega) h; omega
end Go.Ab

/- Contracts: games, strategies and claims as the laws copy, measure and compare them. -/
set_option linter.unusedSimpArgs false
set_option linter.unusedVariables false
namespace Go.Ab
open Go.Proofs

def nodeT (x : Nd) : T := .agg (nodeC x)
def gameO (g : Gm) : T := .agg [nodesO g.nd, rowsO g.w, rowsO g.v]
def stratO (s : Int × List (List Int)) : T := .agg [.i s.1, rowsO s.2]
def claimO (c : Cl) : T := .agg [.i c.f.1, rowsO c.f.2, .i c.s.1, rowsO c.s.2, .i c.lo, .i c.hi]
theorem nodesO_toSh (l : List Nd) : (nodesO l).toSh = nodes l := by
  show T.sh 5 (T.toShL (chunk nodeCO l)) = T.sh 5 (chunk nodeC l)
  congr 1
  induction l with
  | nil => rfl
  | cons x l ih =>
    rw [chunk_cons, chunk_cons, T.toShL_eq_map, List.map_append, ← T.toShL_eq_map (chunk nodeCO l), ih]
    congr 1
    show [T.i x.p, .i x.a, .i x.b, .i x.f, (intsO x.ch).toSh] = _
    rw [intsO_toSh]; rfl
theorem toShL_nodes (l : List Nd) : T.toShL (chunk nodeCO l) = chunk nodeC l := by
  have := nodesO_toSh l
  simpa [nodesO, nodes, T.toSh] using this
attribute [go_sem] toShL_nodes
def chs (l : List Nd) : List (List Int) := l.map Nd.ch
theorem nbudgetMat_le {m : List (List Int)} {left : Int} (h : -1 ≤ left) : -1 ≤ budgetMat m left ∧ (budgetMat m left ≤ left ∨ budgetMat m left = -1) := by
  have key : ∀ (m : List (List Int)) (left : Int), -1 ≤ left → -1 ≤ budgetRows m left ∧ (budgetRows m left ≤ left ∨ budgetRows m left = -1) := by
    intro m
    induction m with
    | nil => intro left h; exact ⟨h, .inl (Int.le_refl _)⟩
    | cons r m ih =>
      intro left h
      simp only [budgetRows]
      split
      · omega
      · have := ih (left - r.length) (by omega); omega
  unfold budgetMat
  split
  · omega
  · have := key m (left - m.length) (by omega); omega
section
attribute [-go_sem] load1C load1V fldC lenC idxC loadNV
theorem laws_szTreeNode_ok (x : Nd) (left : Int) (hl : x.ch.length ≤ 9223372036854775807) (h0 : -1 ≤ left) (h1 : left ≤ 1000000000000) : Pure Tryd.prog 59 [nodeT x, .i left] (.i (budget x.ch.length left)) := by
  refine fun_laws_szTreeNode (by simp) ?_
  simp -implicitDefEqProofs only [go_sem, evR, ints, rows, rat, rats, c_laws_szTreeNode, nodeT, nodeC]
  refine CallW.pure (laws_szInt64S_ok x.ch left (by omega) (by omega) (by omega)) [] rfl Tryd.call32 ?_ (by first | trivial | simp [T.noSh, T.noShL, rat]) rfl ?_
  · simp -implicitDefEqProofs only [agR, Nat.reduceLeDiff, Nat.reduceSub, vaR, go_sem, ints, rows, rat, rats, ratsO, rtR, intsO, rowsO]
  simp -implicitDefEqProofs only [go_sem, evR, ints, rows, rat, rats]
  refine ⟨fun h => ?_, fun h => trivial⟩
  rw [budget] at h ⊢
  split at h
  · rename_i h2; rw [if_pos h2]
  · omega
theorem szTreeNode_t (x : Nd) (left : Int) (hl : x.ch.length ≤ 9223372036854775807) (h0 : -1 ≤ left) (h1 : left ≤ 1000000000000) : Pure Tryd.prog 59 [.agg [.i x.p, .i x.a, .i x.b, .i x.f, .sh 1 (x.ch.map T.i)], .i left] (.i (budget x.ch.length left)) := laws_szTreeNode_ok x left hl h0 h1
theorem laws_szTreeNodeS_ok (l : List Nd) (left : Int) (hm : l.length ≤ 9223372036854775807) (hr : ∀ x ∈ l, x.ch.length ≤ 9223372036854775807) (h0 : -1 ≤ left) (h1 : left ≤ 1000000000000) :
    Pure Tryd.prog 31 [nodes l, .i left] (.i (budgetMat (chs l) left)) := by
  refine fun_laws_szTreeNodeS (by simp) ?_
  simp -implicitDefEqProofs only [go_sem, evR, ints, rows, rat, rats, c_laws_szTreeNodeS, nodes]
  have hcl : (chs l).length = l.length := by simp [chs]
  rw [wrap64 (by omega) (by omega)]
  refine ⟨fun h => ?_, fun h => ?_⟩
  · rw [budgetMat, if_pos (by rw [hcl]; exact h)]
  · refine SemC.loopR (σ := Nat × Int) (fun s => St.of [(0, .t (nodes l)), (1, .t (.i s.2)), (5, .t (.i s.1))] []) (fun s => s.1 ≤ l.length ∧ 0 ≤ s.2 ∧ s.2 ≤ left ∧ budgetRows ((chs l).drop s.1) s.2 = budgetMat (chs l) left) (fun s => l.length - s.1) (0, left - l.length) (Weak.of _ [] [] (by simp) (by simp) ?_ trivial) ⟨by simp, by simp only []; omega, by simp only []; omega, by rw [budgetMat, if_neg (by rw [hcl]; exact h), hcl]; rfl⟩ fun s hI R hn hr' he => ?_
    · simp -implicitDefEqProofs only [ints, rows, wkR, Nat.reduceEqDiff, ↓reduceIte, nodes]
    · obtain ⟨i, x⟩ := s
      (try simp only [] at hI)
      obtain ⟨i1, i2, i3, i4⟩ := hI
      rcases Nat.lt_or_ge i l.length with h9 | h9
      · obtain ⟨y, hy⟩ : ∃ y, l[i]? = some y := ⟨_, List.getElem?_eq_getElem h9⟩
        have hyl := hr y (List.mem_of_getElem? hy)
        have hc : (chs l)[i]? = some y.ch := by rw [chs, List.getElem?_map, hy]; rfl
        rw [drop_of_get hc, budgetRows] at i4
        simp -implicitDefEqProofs only [go_sem, evR, ints, rows, rat, rats, nodes, nd_at hy, decide_eq_true (show (i : Int) < (l.length : Int) by omega)]
        refine ⟨by omega, by rw [nd_len]; omega, by rw [nd_len]; omega, ?_⟩
        refine CallW.pure (szTreeNode_t y x hyl (by omega) (by omega)) [] rfl Tryd.call59 ?_ (by first | trivial | simp [T.noSh, T.noShL, rat]) rfl ?_
        · simp -implicitDefEqProofs only [agR, Nat.reduceLeDiff, Nat.reduceSub, vaR, go_sem, ints, rows, rat, rats, ratsO, rtR, intsO, rowsO]
        simp -implicitDefEqProofs only [go_sem, evR, ints, rows, rat, rats]
        refine ⟨fun h2 => hr' _ ?_, fun h2 => hn _ (i + 1, budget y.ch.length x) (Weak.of _ [] [] (by simp) (by simp) ?_ trivial) ?_ (by simp only []; omega)⟩
        · simp -implicitDefEqProofs only [go_sem, evR, ints, rows, rat, rats]
          simp only [budget] at h2
          split at h2
          · rename_i h3; rw [if_pos h3] at i4; rw [i4]
          · omega
        · simp -implicitDefEqProofs only [ints, rows, wkR, Nat.reduceEqDiff, ↓reduceIte, nodes, next64 h9 (by omega)]
        · simp only [budget] at h2 ⊢
          split at h2
          · omega
          · rename_i h3
            rw [if_neg h3] at i4 ⊢
            exact ⟨by omega, by omega, by omega, i4⟩
      · simp -implicitDefEqProofs only [go_sem, evR, ints, rows, rat, rats, nodes, decide_eq_false (show ¬ (i : Int) < (l.length : Int) by omega)]
        refine he _ _ ?_
        simp -implicitDefEqProofs only [go_sem, evR, ints, rows, rat, rats]
        rw [List.drop_of_length_le (by omega), budgetRows] at i4
        rw [i4]
theorem laws_szTree_ok (l : List Nd) (left : Int) (hm : l.length ≤ 9223372036854775807) (hr : ∀ x ∈ l, x.ch.length ≤ 9223372036854775807) (h0 : -1 ≤ left) (h1 : left ≤ 1000000000000) :
    Pure Tryd.prog 12 [treeT l, .i left] (.i (budgetMat (chs l) left)) := by
  refine fun_laws_szTree (by simp) ?_
  simp -implicitDefEqProofs only [go_sem, evR, ints, rows, rat, rats, c_laws_szTree, treeT, nodes]
  have hp := laws_szTreeNodeS_ok l left hm hr h0 h1
  simp only [nodes] at hp
  have hb := nbudgetMat_le (m := chs l) h0
  refine CallW.pure hp [] rfl Tryd.call31 ?_ (by first | trivial | simp [T.noSh, T.noShL, rat]) rfl ?_
  · simp -implicitDefEqProofs only [agR, Nat.reduceLeDiff, Nat.reduceSub, vaR, go_sem, ints, rows, rat, rats, ratsO, rtR, intsO, rowsO]
  simp -implicitDefEqProofs only [go_sem, evR, ints, rows, rat, rats]
  exact ⟨fun h => by rw [show budgetMat (chs l) left = -1 by omega], fun _ => trivial⟩
def budgetG (g : Gm) (left : Int) : Int :=
  if budgetMat (chs g.nd) left < 0 then -1 else if budgetMat g.w (budgetMat (chs g.nd) left) < 0 then -1 else budgetMat g.v (budgetMat g.w (budgetMat (chs g.nd) left))
theorem laws_szGame_ok (g : Gm) (left : Int) (hg : gameL g) (h0 : -1 ≤ left) (h1 : left ≤ 1000000000000) : Pure Tryd.prog 4 [gameT g, .i left] (.i (budgetG g left)) := by
  refine fun_laws_szGame (by simp) ?_
  simp -implicitDefEqProofs only [go_sem, evR, ints, rows, rat, rats, c_laws_szGame, gameT, nodes]
  have hp := laws_szTree_ok g.nd left hg.1 hg.2.1 h0 h1
  simp only [nodes, treeT] at hp
  have hb := nbudgetMat_le (m := chs g.nd) h0
  unfold budgetG
  refine CallW.pure hp [] rfl Tryd.call12 ?_ (by first | trivial | simp [T.noSh, T.noShL, rat]) rfl ?_
  · simp -implicitDefEqProofs only [agR, Nat.reduceLeDiff, Nat.reduceSub, vaR, go_sem, ints, rows, rat, rats, ratsO, rtR, intsO, rowsO]
  simp -implicitDefEqProofs only [go_sem, evR, ints, rows, rat, rats]
  refine ⟨fun h => by rw [if_pos h], fun h => ?_⟩
  rw [if_neg h]
  generalize budgetMat (chs g.nd) left = b at hb h ⊢
  have hb2 := nbudgetMat_le (m := g.w) hb.1
  refine CallW.pure (laws_szInt64SS_ok g.w b (by have := hg.2.2.1.1; omega) (fun r h => by have := hg.2.2.1.2 r h; omega) (by omega) (by omega)) [] rfl Tryd.call13 ?_ (by first | trivial | simp [T.noSh, T.noShL, rat]) rfl ?_
  · simp -implicitDefEqProofs only [agR, Nat.reduceLeDiff, Nat.reduceSub, vaR, go_sem, ints, rows, rat, rats, ratsO, rtR, intsO, rowsO]
  simp -implicitDefEqProofs only [go_sem, evR, ints, rows, rat, rats]
  refine ⟨fun h2 => by rw [if_pos h2], fun h2 => ?_⟩
  rw [if_neg h2]
  generalize budgetMat g.w b = b2 at hb2 h2 ⊢
  have hb3 := nbudgetMat_le (m := g.v) hb2.1
  refine CallW.pure (laws_szInt64SS_ok g.v b2 (by have := hg.2.2.2.1; omega) (fun r h => by have := hg.2.2.2.2 r h; omega) (by omega) (by omega)) [] rfl Tryd.call13 ?_ (by first | trivial | simp [T.noSh, T.noShL, rat]) rfl ?_
  · simp -implicitDefEqProofs only [agR, Nat.reduceLeDiff, Nat.reduceSub, vaR, go_sem, ints, rows, rat, rats, ratsO, rtR, intsO, rowsO]
  simp -implicitDefEqProofs only [go_sem, evR, ints, rows, rat, rats]
  exact ⟨fun h => by rw [show budgetMat g.v b2 = -1 by omega], fun _ => trivial⟩
theorem laws_szStrategy_ok (s : Int × List (List Int)) (left : Int) (hs : rowsL s.2) (h0 : -1 ≤ left) (h1 : left ≤ 1000000000000) : Pure Tryd.prog 14 [stratT s, .i left] (.i (budgetMat s.2 left)) := by
  refine fun_laws_szStrategy (by simp) ?_
  simp -implicitDefEqProofs only [go_sem, evR, ints, rows, rat, rats, c_laws_szStrategy, stratT]
  have hb := nbudgetMat_le (m := s.2) h0
  refine CallW.pure (laws_szInt64SS_ok s.2 left (by have := hs.1; omega) (fun r h => by have := hs.2 r h; omega) (by omega) (by omega)) [] rfl Tryd.call13 ?_ (by first | trivial | simp [T.noSh, T.noShL, rat]) rfl ?_
  · simp -implicitDefEqProofs only [agR, Nat.reduceLeDiff, Nat.reduceSub, vaR, go_sem, ints, rows, rat, rats, ratsO, rtR, intsO, rowsO]
  simp -implicitDefEqProofs only [go_sem, evR, ints, rows, rat, rats]
  exact ⟨fun h => by rw [show budgetMat s.2 left = -1 by omega], fun _ => trivial⟩
def budgetC (c : Cl) (left : Int) : Int := if budgetMat c.f.2 left < 0 then -1 else budgetMat c.s.2 (budgetMat c.f.2 left)
theorem laws_szClaim_ok (c : Cl) (left : Int) (hf : rowsL c.f.2) (hs : rowsL c.s.2) (h0 : -1 ≤ left) (h1 : left ≤ 1000000000000) : Pure Tryd.prog 5 [claimT c, .i left] (.i (budgetC c left)) := by
  refine fun_laws_szClaim (by simp) ?_
  simp -implicitDefEqProofs only [go_sem, evR, ints, rows, rat, rats, c_laws_szClaim, claimT]
  have hb := nbudgetMat_le (m := c.f.2) h0
  have hp := laws_szStrategy_ok c.f left hf h0 h1
  simp only [stratT, rows] at hp
  unfold budgetC
  refine CallW.pure hp [] rfl Tryd.call14 ?_ (by first | trivial | simp [T.noSh, T.noShL, rat]) rfl ?_
  · simp -implicitDefEqProofs only [agR, Nat.reduceLeDiff, Nat.reduceSub, vaR, go_sem, ints, rows, rat, rats, ratsO, rtR, intsO, rowsO]
  simp -implicitDefEqProofs only [go_sem, evR, ints, rows, rat, rats]
  refine ⟨fun h => by rw [if_pos h], fun h => ?_⟩
  rw [if_neg h]
  generalize budgetMat c.f.2 left = b at hb h ⊢
  have hb2 := nbudgetMat_le (m := c.s.2) hb.1
  have hp := laws_szStrategy_ok c.s b hs (by omega) (by omega)
  simp only [stratT, rows] at hp
  refine CallW.pure hp [] rfl Tryd.call14 ?_ (by first | trivial | simp [T.noSh, T.noShL, rat]) rfl ?_
  · simp -implicitDefEqProofs only [agR, Nat.reduceLeDiff, Nat.reduceSub, vaR, go_sem, ints, rows, rat, rats, ratsO, rtR, intsO, rowsO]
  simp -implicitDefEqProofs only [go_sem, evR, ints, rows, rat, rats]
  exact ⟨fun h => by rw [show budgetMat c.s.2 b = -1 by omega], fun _ => trivial⟩
end
end Go.Ab

/- Contracts: copies of games, strategies and claims, and when they are equal. -/
set_option linter.unusedSimpArgs false
set_option linter.unusedVariables false
namespace Go.Ab
open Go.Proofs

def nodeZ : List T := [.i 0, .i 0, .i 0, .i 0, .v (.slice none 0 0)]
def nfilled (l : List Nd) (i : Nat) : List T := chunk nodeCO (l.take i) ++ (List.replicate (l.length - i) nodeZ).flatten
theorem nfilled_length (l : List Nd) (i : Nat) (h : i ≤ l.length) : (nfilled l i).length = l.length * 5 := by
  have e : (List.replicate (l.length - i) nodeZ).flatten.length = (l.length - i) * 5 := by
    have key : ∀ n, (List.replicate n nodeZ).flatten.length = n * 5 := by
      intro n
      induction n with
      | zero => rfl
      | succ n ih => rw [List.replicate_succ, List.flatten_cons, List.length_append, ih, Nat.add_mul]; simp [nodeZ]; omega
    exact key _
  rw [nfilled, List.length_append, e, chunk_length nodeCO_len, List.length_take, Nat.min_eq_left h]; omega
theorem nfilled_zero (l : List Nd) : made nodeZ l.length = nfilled l 0 := by
  rw [nfilled, List.take_zero, chunk_nil, List.nil_append, Nat.sub_zero]
  show (List.range (l.length * 5)).map (fun i => nodeZ.getD (i % 5) .any) = _
  generalize l.length = n
  induction n with
  | zero => rfl
  | succ n ih =>
    rw [Nat.add_mul, Nat.one_mul, List.range_add, List.map_append, ih, List.map_map]
    rw [show n + 1 = n + 1 from rfl, List.replicate_succ', List.flatten_append]
    congr 1
    have : ∀ j, (n * 5 + j) % 5 = j % 5 := fun j => by omega
    show (List.range 5).map (fun j => nodeZ.getD ((n * 5 + j) % 5) .any) = _
    simp only [this]
    rfl
theorem nfilled_all (l : List Nd) : nfilled l l.length = chunk nodeCO l := by simp [nfilled]
theorem nfilled_set {l : List Nd} {i : Nat} {x : Nd} (h : l[i]? = some x) : (nfilled l i).take (i * 5) ++ nodeCO x ++ (nfilled l i).drop (i * 5 + 5) = nfilled l (i + 1) := by
  obtain ⟨hi, rfl⟩ := List.getElem?_eq_some_iff.1 h
  have e1 : (chunk nodeCO (l.take i)).length = i * 5 := by rw [chunk_length nodeCO_len, List.length_take, Nat.min_eq_left (by omega)]
  have e2 : l.length - i = (l.length - (i + 1)) + 1 := by omega
  rw [nfilled, e2, List.replicate_succ, List.flatten_cons, List.take_left' e1, show i * 5 + 5 = (chunk nodeCO (l.take i)).length + 5 by omega, List.drop_length_add_append]
  rw [show List.drop 5 (nodeZ ++ (List.replicate (l.length - (i + 1)) nodeZ).flatten) = (List.replicate (l.length - (i + 1)) nodeZ).flatten from rfl]
  rw [nfilled, take_snoc h, chunk_append]
  simp [chunk]
section
attribute [-go_sem] load1C load1V fldC lenC idxC loadNV
theorem laws_toTreeNode_ok (x : Nd) (hl : x.ch.length ≤ 1000000000000) : Fun Tryd.prog 66 [] [.t (nodeT x)] fun o r => o = [] ∧ r = .agg (nodeCO x) := by
  refine fun_laws_toTreeNode (by simp) ?_
  simp -implicitDefEqProofs only [go_sem, evR, ints, rows, rat, rats, c_laws_toTreeNode, nodeT, nodeC]
  refine CallW.res (laws_toInt64S_ok x.ch (by omega)) [] rfl Tryd.call42 ?_ (.inl rfl) ?_
  · simp -implicitDefEqProofs only [agR, Nat.reduceLeDiff, Nat.reduceSub, vaR, go_sem, ints, rows, rat, rats, ratsO, rtR, intsO, rowsO]
  simp -implicitDefEqProofs only [clR, Nat.reduceLeDiff, go_sem, evR, rat, intsO, opR, Nat.reduceBEq]
  rfl
theorem toTreeNode_t (x : Nd) (hl : x.ch.length ≤ 1000000000000) : Fun Tryd.prog 66 [] [.t (.agg [.i x.p, .i x.a, .i x.b, .i x.f, .sh 1 (x.ch.map T.i)])] fun o r => o = [] ∧ r = .agg [.i x.p, .i x.a, .i x.b, .i x.f, intsO x.ch] := laws_toTreeNode_ok x hl
set_option maxRecDepth 20000 in
theorem laws_toTreeNodeS_ok (l : List Nd) (hm : l.length ≤ 1000000000000) (hr : ∀ x ∈ l, x.ch.length ≤ 1000000000000) : Fun Tryd.prog 41 [] [.t (nodes l)] fun o r => o = [] ∧ r = nodesO l := by
  refine fun_laws_toTreeNodeS (by simp) ?_
  simp -implicitDefEqProofs only [go_sem, evR, ints, rows, rat, rats, c_laws_toTreeNodeS, nodes]
  refine ⟨by omega, by omega, ?_⟩
  refine SemC.loopR (σ := Nat) (fun i => St.of [(0, .t (nodes l)), (3, .own 7), (4, .t (.i i))] [(7, .arr 5 (nfilled l i))]) (fun i => i ≤ l.length) (fun i => l.length - i) 0 (Weak.of _ _ [some 7] (by simp) (by simp) ?_ ?_) (by simp) fun i hi R hn hr' he => ?_
  · simp -implicitDefEqProofs only [ints, rows, Nat.reduceBEq, wkR, Nat.reduceEqDiff, ↓reduceIte, wrR, nodes]
  · exact ⟨⟨_, rfl, by rw [← nfilled_zero]; exact .refl _⟩, rfl, trivial⟩
  · have hlen := nfilled_length l i hi
    rcases Nat.lt_or_ge i l.length with h9 | h9
    · obtain ⟨y, hy⟩ : ∃ y, l[i]? = some y := ⟨_, List.getElem?_eq_getElem h9⟩
      simp -implicitDefEqProofs only [go_sem, evR, ints, rows, rat, rats, nodes, nd_at hy, decide_eq_true (show (i : Int) < (l.length : Int) by omega)]
      refine ⟨by omega, by rw [nd_len]; omega, by rw [nd_len]; omega, ?_⟩
      refine CallW.res (toTreeNode_t y (hr y (List.mem_of_getElem? hy))) [] rfl Tryd.call66 ?_ (.inl rfl) ?_
      · simp -implicitDefEqProofs only [agR, Nat.reduceLeDiff, Nat.reduceSub, vaR, go_sem, ints, rows, rat, rats, ratsO, rtR, intsO, rowsO]
      simp -implicitDefEqProofs only [clR, Nat.reduceLeDiff, go_sem, evR, rat, intsO, hlen]
      refine ⟨by omega, by omega, by omega, hn _ (i + 1) (Weak.of _ _ [some 7] (by simp) (by simp) ?_ ?_) (by omega) (by omega)⟩
      · simp -implicitDefEqProofs only [ints, rows, Nat.reduceBEq, wkR, Nat.reduceEqDiff, ↓reduceIte, wrR, nodes, next64 h9 (by omega)]
      · refine ⟨⟨_, rfl, ?_⟩, rfl, trivial⟩
        have := nfilled_set hy
        simp only [nodeCO, intsO, List.append_assoc, List.cons_append, List.nil_append] at this
        (try simp only [List.append_assoc, List.cons_append, List.nil_append])
        rw [this]; exact .refl _
    · simp -implicitDefEqProofs only [go_sem, evR, ints, rows, rat, rats, nodes, decide_eq_false (show ¬ (i : Int) < (l.length : Int) by omega)]
      refine he _ _ ?_
      simp -implicitDefEqProofs only [go_sem, evR, ints, rows, rat, rats]
      rw [show i = l.length by omega, nfilled_all]; rfl
theorem laws_toTree_ok (l : List Nd) (hm : l.length ≤ 1000000000000) (hr : ∀ x ∈ l, x.ch.length ≤ 1000000000000) : Fun Tryd.prog 20 [] [.t (treeT l)] fun o r => o = [] ∧ r = .agg [nodesO l] := by
  refine fun_laws_toTree (by simp) ?_
  simp -implicitDefEqProofs only [go_sem, evR, ints, rows, rat, rats, c_laws_toTree, treeT, nodes]
  have hp := laws_toTreeNodeS_ok l hm hr
  simp only [nodes] at hp
  refine CallW.res hp [] rfl Tryd.call41 ?_ (.inl rfl) ?_
  · simp -implicitDefEqProofs only [agR, Nat.reduceLeDiff, Nat.reduceSub, vaR, go_sem, ints, rows, rat, rats, ratsO, rtR, intsO, rowsO]
  simp -implicitDefEqProofs only [clR, Nat.reduceLeDiff, go_sem, evR, rat, nodesO, opR, Nat.reduceBEq]
def rows12 (m : List (List Int)) : Prop := m.length ≤ 1000000000000 ∧ ∀ r ∈ m, r.length ≤ 1000000000000
def game12 (g : Gm) : Prop := g.nd.length ≤ 1000000000000 ∧ (∀ x ∈ g.nd, x.ch.length ≤ 1000000000000) ∧ rows12 g.w ∧ rows12 g.v
theorem rows12_to {m : List (List Int)} (h : rows12 m) : ((m.length : Int) ≤ 1000000000000) ∧ ∀ r ∈ m, (r.length : Int) ≤ 1000000000000 := ⟨by have := h.1; omega, fun r hr => by have := h.2 r hr; omega⟩
set_option maxRecDepth 20000 in
theorem laws_toGame_ok (g : Gm) (hg : game12 g) : Fun Tryd.prog 7 [] [.t (gameT g)] fun o r => o = [] ∧ r = gameO g := by
  refine fun_laws_toGame (by simp) ?_
  simp -implicitDefEqProofs only [go_sem, evR, ints, rows, rat, rats, c_laws_toGame, gameT, nodes]
  have hp := laws_toTree_ok g.nd hg.1 hg.2.1
  simp only [treeT, nodes] at hp
  refine CallW.res hp [] rfl Tryd.call20 ?_ (.inl rfl) ?_
  · simp -implicitDefEqProofs only [agR, Nat.reduceLeDiff, Nat.reduceSub, vaR, go_sem, ints, rows, rat, rats, ratsO, rtR, intsO, rowsO]
  simp -implicitDefEqProofs only [clR, Nat.reduceLeDiff, go_sem, evR, rat, nodesO, opR, Nat.reduceBEq]
  refine CallW.res (laws_toInt64SS_ok g.w (rows12_to hg.2.2.1).1 (rows12_to hg.2.2.1).2) [] rfl Tryd.call21 ?_ (.inl rfl) ?_
  · simp -implicitDefEqProofs only [agR, Nat.reduceLeDiff, Nat.reduceSub, vaR, go_sem, ints, rows, rat, rats, ratsO, rtR, intsO, rowsO]
  simp -implicitDefEqProofs only [clR, Nat.reduceLeDiff, go_sem, evR, rat, rowsO, opR, Nat.reduceBEq]
  refine CallW.res (laws_toInt64SS_ok g.v (rows12_to hg.2.2.2).1 (rows12_to hg.2.2.2).2) [] rfl Tryd.call21 ?_ (.inl rfl) ?_
  · simp -implicitDefEqProofs only [agR, Nat.reduceLeDiff, Nat.reduceSub, vaR, go_sem, ints, rows, rat, rats, ratsO, rtR, intsO, rowsO]
  simp -implicitDefEqProofs only [clR, Nat.reduceLeDiff, go_sem, evR, rat, rowsO, opR, Nat.reduceBEq]
  rfl
theorem laws_toStrategy_ok (s : Int × List (List Int)) (hs : rows12 s.2) : Fun Tryd.prog 22 [] [.t (stratT s)] fun o r => o = [] ∧ r = stratO s := by
  refine fun_laws_toStrategy (by simp) ?_
  simp -implicitDefEqProofs only [go_sem, evR, ints, rows, rat, rats, c_laws_toStrategy, stratT]
  refine CallW.res (laws_toInt64SS_ok s.2 (rows12_to hs).1 (rows12_to hs).2) [] rfl Tryd.call21 ?_ (.inl rfl) ?_
  · simp -implicitDefEqProofs only [agR, Nat.reduceLeDiff, Nat.reduceSub, vaR, go_sem, ints, rows, rat, rats, ratsO, rtR, intsO, rowsO]
  simp -implicitDefEqProofs only [clR, Nat.reduceLeDiff, go_sem, evR, rat, rowsO, opR, Nat.reduceBEq]
  rfl
theorem toStrategy_t (s : Int × List (List Int)) (hs : rows12 s.2) : Fun Tryd.prog 22 [] [.t (.agg [.i s.1, .sh 1 (s.2.map ints)])] fun o r => o = [] ∧ r = .agg [.i s.1, .arr 1 (s.2.map intsO)] := laws_toStrategy_ok s hs
theorem laws_toClaim_ok (c : Cl) (hf : rows12 c.f.2) (hs : rows12 c.s.2) : Fun Tryd.prog 8 [] [.t (claimT c)] fun o r => o = [] ∧ r = claimO c := by
  refine fun_laws_toClaim (by simp) ?_
  simp -implicitDefEqProofs only [go_sem, evR, ints, rows, rat, rats, c_laws_toClaim, claimT]
  refine CallW.res (toStrategy_t c.f hf) [] rfl Tryd.call22 ?_ (.inl rfl) ?_
  · simp -implicitDefEqProofs only [agR, Nat.reduceLeDiff, Nat.reduceSub, vaR, go_sem, ints, rows, rat, rats, ratsO, rtR, intsO, rowsO]
  simp -implicitDefEqProofs only [clR, Nat.reduceLeDiff, go_sem, evR, rat, rowsO, opR, Nat.reduceBEq]
  refine CallW.res (toStrategy_t c.s hs) [] rfl Tryd.call22 ?_ (.inl rfl) ?_
  · simp -implicitDefEqProofs only [agR, Nat.reduceLeDiff, Nat.reduceSub, vaR, go_sem, ints, rows, rat, rats, ratsO, rtR, intsO, rowsO]
  simp -implicitDefEqProofs only [clR, Nat.reduceLeDiff, go_sem, evR, rat, rowsO, opR, Nat.reduceBEq]
  rfl
theorem laws_eqTreeNode_ok (x y : Nd) (hx : x.ch.length ≤ 1000000000000) (hy : y.ch.length ≤ 1000000000000) : Pure Tryd.prog 75 [nodeT x, nodeT y] (.b (decide (x = y))) := by
  refine fun_laws_eqTreeNode (by simp) ?_
  obtain ⟨p, a, b, f, ch⟩ := x
  obtain ⟨p', a', b', f', ch'⟩ := y
  simp -implicitDefEqProofs only [go_sem, evR, ints, rows, rat, rats, c_laws_eqTreeNode, nodeT, nodeC]
  have no : ∀ {P : Prop}, ¬ P → (Nd.mk p a b f ch = Nd.mk p' a' b' f' ch' → P) → decide (Nd.mk p a b f ch = Nd.mk p' a' b' f' ch') = false := fun h1 h2 => decide_eq_false fun h => h1 (h2 h)
  refine ⟨fun h1 => ?_, fun h1 => ?_⟩
  · rw [no (P := p = p') (by simpa using h1) (fun h => by injection h)]
  refine ⟨fun h2 => ?_, fun h2 => ?_⟩
  · rw [no (P := a = a') (by simpa using h2) (fun h => by injection h)]
  refine ⟨fun h3 => ?_, fun h3 => ?_⟩
  · rw [no (P := b = b') (by simpa using h3) (fun h => by injection h)]
  refine ⟨fun h4 => ?_, fun h4 => ?_⟩
  · rw [no (P := f = f') (by simpa using h4) (fun h => by injection h)]
  refine CallW.pure (laws_eqInt64S_ok ch ch' hx hy) [] rfl Tryd.call58 ?_ (by first | trivial | simp [T.noSh, T.noShL, rat]) rfl ?_
  · simp -implicitDefEqProofs only [agR, Nat.reduceLeDiff, Nat.reduceSub, vaR, go_sem, ints, rows, rat, rats, ratsO, rtR, intsO, rowsO]
  simp -implicitDefEqProofs only [go_sem, evR, ints, rows, rat, rats]
  refine ⟨fun h5 => ?_, fun h5 => ?_⟩
  · rw [no (P := ch = ch') (by simpa using h5) (fun h => by injection h)]
  · rw [decide_eq_true (by simp at h1 h2 h3 h4 h5; simp_all)]
theorem eqTreeNode_t (x y : Nd) (hx : x.ch.length ≤ 1000000000000) (hy : y.ch.length ≤ 1000000000000) : Pure Tryd.prog 75 [.agg [.i x.p, .i x.a, .i x.b, .i x.f, .sh 1 (x.ch.map T.i)], .agg [.i y.p, .i y.a, .i y.b, .i y.f, .sh 1 (y.ch.map T.i)]] (.b (decide (x = y))) := laws_eqTreeNode_ok x y hx hy
theorem laws_eqTreeNodeS_ok (a b : List Nd) (ha : a.length ≤ 1000000000000) (hb : b.length ≤ 1000000000000) (hra : ∀ r ∈ a, r.ch.length ≤ 1000000000000) (hrb : ∀ r ∈ b, r.ch.length ≤ 1000000000000) :
    Pure Tryd.prog 57 [nodes a, nodes b] (.b (decide (a = b))) := by
  refine fun_laws_eqTreeNodeS (by simp) ?_
  simp -implicitDefEqProofs only [go_sem, evR, ints, rows, rat, rats, c_laws_eqTreeNodeS, nodes]
  refine ⟨fun h => ?_, fun h => ?_⟩
  · have : a ≠ b := by rintro rfl; simp at h
    simp [this]
  · have hab : a.length = b.length := by simp at h; omega
    refine SemC.loopR (σ := Nat) (fun i => St.of [(0, .t (nodes a)), (1, .t (nodes b)), (5, .t (.i i))] []) (fun i => i ≤ a.length ∧ ∀ j, j < i → a[j]? = b[j]?) (fun i => a.length - i) 0 (Weak.of _ [] [] (by simp) (by simp) ?_ trivial) ⟨by simp, fun j hj => by omega⟩ fun i hI R hn hr he => ?_
    · simp -implicitDefEqProofs only [ints, rows, wkR, Nat.reduceEqDiff, ↓reduceIte, nodes]
    · rcases Nat.lt_or_ge i a.length with h9 | h9
      · obtain ⟨x, hx⟩ : ∃ x, a[i]? = some x := ⟨_, List.getElem?_eq_getElem h9⟩
        obtain ⟨y, hy⟩ : ∃ y, b[i]? = some y := ⟨_, List.getElem?_eq_getElem (by omega)⟩
        simp -implicitDefEqProofs only [go_sem, evR, ints, rows, rat, rats, nodes, nd_at hx, nd_at hy, decide_eq_true (show (i : Int) < (a.length : Int) by omega)]
        refine ⟨by omega, by rw [nd_len]; omega, by rw [nd_len]; omega, by omega, by rw [nd_len]; omega, by rw [nd_len]; omega, ?_⟩
        refine CallV.pure (eqTreeNode_t x y (hra x (List.mem_of_getElem? hx)) (hrb y (List.mem_of_getElem? hy))) [] rfl Tryd.call75 (fun e R' hR => ?_) (by first | trivial | simp [T.noSh, T.noShL, rat]) (fun _ => rfl) ?_
        · simp -implicitDefEqProofs only [agR, Nat.reduceLeDiff, Nat.reduceSub, vaR, go_sem, ints, rows, rat, rats, ratsO, rtR, intsO, rowsO]
        simp -implicitDefEqProofs only [go_sem, evR, ints, rows, rat, rats]
        refine ⟨fun h1 => hr _ ?_, fun h1 => hn _ (i + 1) (Weak.of _ [] [] (by simp) (by simp) ?_ trivial) ⟨by omega, fun j hj => ?_⟩ (by omega)⟩
        · simp -implicitDefEqProofs only [go_sem, evR, ints, rows, rat, rats]
          have : a ≠ b := by rintro rfl; rw [hx] at hy; cases hy; simp at h1
          simp [this]
        · simp -implicitDefEqProofs only [ints, rows, wkR, Nat.reduceEqDiff, ↓reduceIte, nodes, next64 h9 ha]
        · rcases Nat.lt_or_ge j i with h | h
          · exact hI.2 j h
          · have : j = i := by omega
            subst this
            rw [hx, hy]; simpa using h1
      · simp -implicitDefEqProofs only [go_sem, evR, ints, rows, rat, rats, nodes, decide_eq_false (show ¬ (i : Int) < (a.length : Int) by omega)]
        refine he _ _ ?_
        simp -implicitDefEqProofs only [go_sem, evR, ints, rows, rat, rats]
        have : a = b := by
          refine List.ext_getElem? fun j => ?_
          rcases Nat.lt_or_ge j i with h | h
          · exact hI.2 j h
          · rw [List.getElem?_eq_none (by omega), List.getElem?_eq_none (by omega)]
        simp [this]
theorem laws_eqTree_ok (a b : List Nd) (ha : a.length ≤ 1000000000000) (hb : b.length ≤ 1000000000000) (hra : ∀ r ∈ a, r.ch.length ≤ 1000000000000) (hrb : ∀ r ∈ b, r.ch.length ≤ 1000000000000) :
    Pure Tryd.prog 28 [treeT a, treeT b] (.b (decide (a = b))) := by
  refine fun_laws_eqTree (by simp) ?_
  simp -implicitDefEqProofs only [go_sem, evR, ints, rows, rat, rats, c_laws_eqTree, treeT, nodes]
  have hp := laws_eqTreeNodeS_ok a b ha hb hra hrb
  simp only [nodes] at hp
  refine CallW.pure hp [] rfl Tryd.call57 ?_ (by first | trivial | simp [T.noSh, T.noShL, rat]) rfl ?_
  · simp -implicitDefEqProofs only [agR, Nat.reduceLeDiff, Nat.reduceSub, vaR, go_sem, ints, rows, rat, rats, ratsO, rtR, intsO, rowsO]
  simp -implicitDefEqProofs only [go_sem, evR, ints, rows, rat, rats]
  exact ⟨fun h => by rw [show decide (a = b) = false by simpa using h], fun h => by rw [show decide (a = b) = true by simpa using h]⟩
theorem laws_eqGame_ok (g h : Gm) (hg : game12 g) (hh : game12 h) : Pure Tryd.prog 10 [gameT g, gameT h] (.b (decide (g = h))) := by
  refine fun_laws_eqGame (by simp) ?_
  obtain ⟨nd, w, v⟩ := g
  obtain ⟨nd', w', v'⟩ := h
  simp -implicitDefEqProofs only [go_sem, evR, ints, rows, rat, rats, c_laws_eqGame, gameT, nodes]
  have no : ∀ {P : Prop}, ¬ P → (Gm.mk nd w v = Gm.mk nd' w' v' → P) → decide (Gm.mk nd w v = Gm.mk nd' w' v') = false := fun h1 h2 => decide_eq_false fun h => h1 (h2 h)
  have hp := laws_eqTree_ok nd nd' hg.1 hh.1 hg.2.1 hh.2.1
  simp only [treeT, nodes] at hp
  refine CallW.pure hp [] rfl Tryd.call28 ?_ (by first | trivial | simp [T.noSh, T.noShL, rat]) rfl ?_
  · simp -implicitDefEqProofs only [agR, Nat.reduceLeDiff, Nat.reduceSub, vaR, go_sem, ints, rows, rat, rats, ratsO, rtR, intsO, rowsO]
  simp -implicitDefEqProofs only [go_sem, evR, ints, rows, rat, rats]
  refine ⟨fun h1 => ?_, fun h1 => ?_⟩
  · rw [no (P := nd = nd') (by simpa using h1) (fun h => by injection h)]
  refine CallW.pure (laws_eqInt64SS_ok w w' hg.2.2.1.1 hh.2.2.1.1 hg.2.2.1.2 hh.2.2.1.2) [] rfl Tryd.call29 ?_ (by first | trivial | simp [T.noSh, T.noShL, rat]) rfl ?_
  · simp -implicitDefEqProofs only [agR, Nat.reduceLeDiff, Nat.reduceSub, vaR, go_sem, ints, rows, rat, rats, ratsO, rtR, intsO, rowsO]
  simp -implicitDefEqProofs only [go_sem, evR, ints, rows, rat, rats]
  refine ⟨fun h2 => ?_, fun h2 => ?_⟩
  · rw [no (P := w = w') (by simpa using h2) (fun h => by injection h)]
  refine CallW.pure (laws_eqInt64SS_ok v v' hg.2.2.2.1 hh.2.2.2.1 hg.2.2.2.2 hh.2.2.2.2) [] rfl Tryd.call29 ?_ (by first | trivial | simp [T.noSh, T.noShL, rat]) rfl ?_
  · simp -implicitDefEqProofs only [agR, Nat.reduceLeDiff, Nat.reduceSub, vaR, go_sem, ints, rows, rat, rats, ratsO, rtR, intsO, rowsO]
  simp -implicitDefEqProofs only [go_sem, evR, ints, rows, rat, rats]
  refine ⟨fun h3 => ?_, fun h3 => ?_⟩
  · rw [no (P := v = v') (by simpa using h3) (fun h => by injection h)]
  · rw [decide_eq_true (by simp at h1 h2 h3; simp_all)]
theorem laws_eqStrategy_ok (s t : Int × List (List Int)) (hs : rows12 s.2) (ht : rows12 t.2) : Pure Tryd.prog 30 [stratT s, stratT t] (.b (decide (s = t))) := by
  refine fun_laws_eqStrategy (by simp) ?_
  obtain ⟨p, m⟩ := s
  obtain ⟨p', m'⟩ := t
  simp -implicitDefEqProofs only [go_sem, evR, ints, rows, rat, rats, c_laws_eqStrategy, stratT]
  refine ⟨fun h1 => ?_, fun h1 => ?_⟩
  · have h1 : ¬ p = p' := by simpa using h1
    rw [decide_eq_false (fun h => h1 (by injection h))]
  refine CallW.pure (laws_eqInt64SS_ok m m' hs.1 ht.1 hs.2 ht.2) [] rfl Tryd.call29 ?_ (by first | trivial | simp [T.noSh, T.noShL, rat]) rfl ?_
  · simp -implicitDefEqProofs only [agR, Nat.reduceLeDiff, Nat.reduceSub, vaR, go_sem, ints, rows, rat, rats, ratsO, rtR, intsO, rowsO]
  simp -implicitDefEqProofs only [go_sem, evR, ints, rows, rat, rats]
  refine ⟨fun h2 => ?_, fun h2 => ?_⟩
  · have h2 : ¬ m = m' := by simpa using h2
    rw [decide_eq_false (fun h => h2 (by injection h))]
  · rw [decide_eq_true (by simp at h1 h2; simp_all)]
theorem eqStrategy_t (s t : Int × List (List Int)) (hs : rows12 s.2) (ht : rows12 t.2) : Pure Tryd.prog 30 [.agg [.i s.1, .sh 1 (s.2.map ints)], .agg [.i t.1, .sh 1 (t.2.map ints)]] (.b (decide (s = t))) := laws_eqStrategy_ok s t hs ht
theorem laws_eqClaim_ok (c d : Cl) (hc : rows12 c.f.2) (hc' : rows12 c.s.2) (hd : rows12 d.f.2) (hd' : rows12 d.s.2) : Pure Tryd.prog 11 [claimT c, claimT d] (.b (decide (c = d))) := by
  refine fun_laws_eqClaim (by simp) ?_
  obtain ⟨f, s, lo, hi⟩ := c
  obtain ⟨f', s', lo', hi'⟩ := d
  simp -implicitDefEqProofs only [go_sem, evR, ints, rows, rat, rats, c_laws_eqClaim, claimT]
  have no : ∀ {P : Prop}, ¬ P → (Cl.mk f s lo hi = Cl.mk f' s' lo' hi' → P) → decide (Cl.mk f s lo hi = Cl.mk f' s' lo' hi') = false := fun h1 h2 => decide_eq_false fun h => h1 (h2 h)
  refine CallW.pure (eqStrategy_t f f' hc hd) [] rfl Tryd.call30 ?_ (by first | trivial | simp [T.noSh, T.noShL, rat]) rfl ?_
  · simp -implicitDefEqProofs only [agR, Nat.reduceLeDiff, Nat.reduceSub, vaR, go_sem, ints, rows, rat, rats, ratsO, rtR, intsO, rowsO]
  simp -implicitDefEqProofs only [go_sem, evR, ints, rows, rat, rats]
  refine ⟨fun h1 => ?_, fun h1 => ?_⟩
  · rw [no (P := f = f') (by simpa using h1) (fun h => by injection h)]
  refine CallW.pure (eqStrategy_t s s' hc' hd') [] rfl Tryd.call30 ?_ (by first | trivial | simp [T.noSh, T.noShL, rat]) rfl ?_
  · simp -implicitDefEqProofs only [agR, Nat.reduceLeDiff, Nat.reduceSub, vaR, go_sem, ints, rows, rat, rats, ratsO, rtR, intsO, rowsO]
  simp -implicitDefEqProofs only [go_sem, evR, ints, rows, rat, rats]
  refine ⟨fun h2 => ?_, fun h2 => ?_⟩
  · rw [no (P := s = s') (by simpa using h2) (fun h => by injection h)]
  refine ⟨fun h3 => ?_, fun h3 => ?_⟩
  · rw [no (P := lo = lo') (by simpa using h3) (fun h => by injection h)]
  refine ⟨fun h4 => ?_, fun h4 => ?_⟩
  · rw [no (P := hi = hi') (by simpa using h4) (fun h => by injection h)]
  · rw [decide_eq_true (by simp at h1 h2 h3 h4; simp_all)]
end
end Go.Ab

/- Functions in compact form, with hints. -/
set_option linter.unusedVariables false
namespace Go.Ab
open Go.Proofs

def c_impl_bestAgainst_h : CC :=
 (.seq (.reg [.o (.box 2 (sl 0)),
 .o (.box 3 (sl 1)),
 .o (.move 4 (ci 0)),
 .o (.alloc 5 [.v (.int .i64 0), .v (.slice none 0 0)])])
 ((.seq (.reg [.o (.loadN 16 3 (sl 2)),
 .o (.fld 17 0 (sl 3)),
 .o (.load1 18 (sl 17)),
 .o (.bin 19 .sub (ci 1) (sl 18)),
 .o (.fld 20 1 (sl 3)),
 .o (.load1 21 (sl 20)),
 .o (.build 22 [.v (.slice none 0 0), .v (.slice none 0 0), .v (.slice none 0 0), .v (.int .i64 0), .v (.int .i64 0), .v (.slice none 0 0), .v (.slice none 0 0), .v (.slice none 0 0), .v (.int .i64 0), .v (.slice none 0 0)] [(0, 3), (3, 1), (4, 1), (5, 1), (6, 1), (7, 1), (8, 2)] [(0, (sl 16)), (1, (sl 19)), (5, (sl 21))]),
 .o (.alloc 6 [.v (.slice none 0 0), .v (.slice none 0 0), .v (.slice none 0 0), .v (.int .i64 0), .v (.int .i64 0), .v (.slice none 0 0), .v (.slice none 0 0), .v (.slice none 0 0), .v (.int .i64 0), .v (.slice none 0 0)]),
 .o (.store 10 (sl 6) (sl 22))])
 ((.seq (.draw [27, 32] [(kR, .o (.fld 23 0 (sl 2))),
 (kR, .o (.fld 24 0 (sl 23))),
 (kR, .o (.load1 25 (sl 24))),
 (kR, .o (.lenS 26 (sl 25))),
 (kN, .o (.make 27 [.v (.int .i64 0)] 8 (sl 26) (sl 26))),
 (.r false [6, 27], .o (.fld 28 0 (sl 2))),
 (.r false [6, 27], .o (.fld 29 0 (sl 28))),
 (.r false [6, 27], .o (.load1 30 (sl 29))),
 (.r false [6, 27], .o (.lenS 31 (sl 30))),
 (kN, .o (.make 32 [.v (.int .i64 0)] 8 (sl 31) (sl 31))),
 (.r false [32], .o (.fld 33 5 (sl 6))),
 (.h (some [6, 27]) [32], .o (.store 1 (sl 33) (sl 27))),
 (kR, .o (.fld 34 6 (sl 6))),
 (kH, .o (.store 1 (sl 34) (sl 32)))])
 ((.seq (.reg [.o (.fld 35 1 (sl 2)),
 .o (.load1 36 (sl 35)),
 .o (.lenS 37 (sl 36)),
 .o (.move 7 (sl 37))])
 ((.seq (.seq (.reg [.o (.fld 38 0 (sl 2)),
 .o (.loadN 39 1 (sl 38)),
 .o (.fld 40 3 (sl 6)),
 .o (.load1 41 (sl 40)),
 .o (.call (some 42) (cf 71) [(sl 39), (sl 41)]),
 .o (.lenS 43 (sl 42)),
 .o (.move 44 (ci 0))])
 ((.block 0 (.loop (.seq (.reg [.o (.bin 45 .lss (sl 44) (sl 43))])
 ((.seq (.cond (sl 45) .skip
 (.exit 0))
 ((.seq (.block 1 (.seq (.reg [.o (.move 46 (sl 44)),
 .o (.idx 47 1 (sl 42) (sl 44)),
 .o (.load1 48 (sl 47)),
 .o (.move 8 (sl 46)),
 .o (.move 9 (sl 48))])
 ((.reg [.o (.fld 49 5 (sl 6)),
 .o (.load1 50 (sl 49)),
 .o (.move 51 (sl 9)),
 .o (.move 52 (sl 8)),
 .o (.move 53 (sl 7)),
 .o (.bin 54 .mul (sl 52) (sl 53)),
 .o (.idx 55 1 (sl 50) (sl 51)),
 .o (.store 1 (sl 55) (sl 54))]))))
 ((.reg [.o (.bin 56 .add (sl 44) (ci 1)),
 .o (.move 44 (sl 56))])))))))))))
 ((.seq (.seq (.reg [.o (.fld 57 0 (sl 2)),
 .o (.loadN 58 1 (sl 57)),
 .o (.fld 59 0 (sl 3)),
 .o (.load1 60 (sl 59)),
 .o (.call (some 61) (cf 71) [(sl 58), (sl 60)]),
 .o (.lenS 62 (sl 61)),
 .o (.move 63 (ci 0))])
 ((.block 2 (.loop (.seq (.reg [.o (.bin 64 .lss (sl 63) (sl 62))])
 ((.seq (.cond (sl 64) .skip
 (.exit 2))
 ((.seq (.block 3 (.seq (.reg [.o (.move 65 (sl 63)),
 .o (.idx 66 1 (sl 61) (sl 63)),
 .o (.load1 67 (sl 66)),
 .o (.move 10 (sl 65)),
 .o (.move 11 (sl 67))])
 ((.reg [.o (.fld 68 6 (sl 6)),
 .o (.load1 69 (sl 68)),
 .o (.move 70 (sl 11)),
 .o (.move 71 (sl 10)),
 .o (.move 72 (sl 7)),
 .o (.bin 73 .mul (sl 71) (sl 72)),
 .o (.idx 74 1 (sl 69) (sl 70)),
 .o (.store 1 (sl 74) (sl 73))]))))
 ((.reg [.o (.bin 75 .add (sl 63) (ci 1)),
 .o (.move 63 (sl 75))])))))))))))
 ((.seq (.draw [83, 86] [(kR, .o (.fld 76 3 (sl 6))),
 (kR, .o (.load1 77 (sl 76))),
 (kR, .o (.move 78 (sl 7))),
 (kR, .o (.fld 79 0 (sl 2))),
 (kR, .o (.loadN 80 1 (sl 79))),
 (kR, .o (.fld 81 3 (sl 6))),
 (kR, .o (.load1 82 (sl 81))),
 (.c false [], .o (.call (some 83) (cf 71) [(sl 80), (sl 82)])),
 (kR, .o (.lenS 84 (sl 83))),
 (kR, .o (.bin 85 .mul (sl 78) (sl 84))),
 (kN, .o (.make 86 [.v (.slice none 0 0)] 24 (sl 85) (sl 85))),
 (kR, .o (.build 87 [.v (.int .i64 0), .v (.slice none 0 0)] [(0, 1), (1, 1)] [(0, (sl 77)), (1, (sl 86))])),
 (kR, .o (.fld 88 8 (sl 6))),
 (kH, .o (.store 2 (sl 88) (sl 87)))])
 ((.seq (.reg [.o (.move 12 (ci 0))])
 ((.seq (.seq (.reg [.o (.move 89 (sl 7)),
 .o (.move 90 (ci 0))])
 ((.block 4 (.loop (.seq (.reg [.o (.bin 91 .lss (sl 90) (sl 89))])
 ((.seq (.cond (sl 91) .skip
 (.exit 4))
 ((.seq (.block 5 (.seq (.reg [.o (.move 92 (sl 90)),
 .o (.move 13 (sl 92))])
 ((.seq (.reg [.o (.move 93 (sl 13)),
 .o (.fld 94 4 (sl 6)),
 .o (.store 1 (sl 94) (sl 93))])
 ((.seq (.reg [.o (.move 95 (sl 7)),
 .o (.make 96 [.v (.int .i64 0)] 8 (sl 95) (sl 95)),
 .o (.move 14 (sl 96))])
 ((.seq (.seq (.reg [.o (.move 97 (sl 14)),
 .o (.lenS 98 (sl 97)),
 .o (.move 99 (ci 0))])
 ((.block 6 (.loop (.seq (.reg [.o (.bin 100 .lss (sl 99) (sl 98))])
 ((.seq (.cond (sl 100) .skip
 (.exit 6))
 ((.seq (.block 7 (.seq (.reg [.o (.move 101 (sl 99)),
 .o (.move 15 (sl 101))])
 ((.seq (.reg [.o (.fld 102 3 (sl 6)),
 .o (.load1 103 (sl 102)),
 .o (.bin 104 .eql (sl 103) (ci 0))])
 ((.cond (sl 104) (.reg [.o (.move 105 (sl 14)),
 .o (.move 106 (sl 15)),
 .o (.fld 107 1 (sl 2)),
 .o (.load1 108 (sl 107)),
 .o (.move 109 (sl 13)),
 .o (.idx 110 1 (sl 108) (sl 109)),
 .o (.load1 111 (sl 110)),
 .o (.move 112 (sl 15)),
 .o (.idx 113 1 (sl 111) (sl 112)),
 .o (.load1 114 (sl 113)),
 .o (.idx 115 1 (sl 105) (sl 106)),
 .o (.store 1 (sl 115) (sl 114))])
 (.reg [.o (.move 116 (sl 14)),
 .o (.move 117 (sl 15)),
 .o (.fld 118 1 (sl 2)),
 .o (.load1 119 (sl 118)),
 .o (.move 120 (sl 15)),
 .o (.idx 121 1 (sl 119) (sl 120)),
 .o (.load1 122 (sl 121)),
 .o (.move 123 (sl 13)),
 .o (.idx 124 1 (sl 122) (sl 123)),
 .o (.load1 125 (sl 124)),
 .o (.idx 126 1 (sl 116) (sl 117)),
 .o (.store 1 (sl 126) (sl 125))])))))))
 ((.reg [.o (.bin 127 .add (sl 99) (ci 1)),
 .o (.move 99 (sl 127))])))))))))))
 ((.weak (.reg [.o (.move 128 (sl 12)),
 .o (.move 129 (sl 14)),
 .o (.fld 130 0 (sl 2)),
 .o (.loadN 131 1 (sl 130)),
 .o (.call (some 132) (cf 56) [(sl 131), (ci 0)]),
 .o (.call (some 133) (cf 79) [(sl 6), (ci 0), (sl 129), (sl 132)]),
 .o (.bin 134 .add (sl 128) (sl 133)),
 .o (.move 12 (sl 134))])))))))))))
 ((.reg [.o (.bin 135 .add (sl 90) (ci 1)),
 .o (.move 90 (sl 135))])))))))))))
 ((.seq (.weak (.draw [] [(kR, .o (.move 136 (sl 12))),
 (kR, .o (.fld 137 8 (sl 6))),
 (kR, .o (.loadN 138 2 (sl 137))),
 (kR, .o (.move 4 (sl 136))),
 (kH, .o (.store 2 (sl 5) (sl 138)))]))
 (.ret))))))))))))))))))))
theorem fun_impl_bestAgainst_h {rin : List T} {args : List A} {Q : List T → T → Prop} (ha : args.length ≤ 139) (h : cW Tryd.prog 139 c_impl_bestAgainst_h (retP Tryd.prog [.tmp 4, .cell 5 42] rin.length Q) (St.of (enum 0 args) (enum 1000000000 rin))) :
    Fun Tryd.prog 70 rin args Q :=
  Fun.of (H := ⟨[], [28, 30]⟩) Tryd.func70 rfl rfl rfl (by kernel_rfl) ha (by decide) h

def c___impl_responder__respond_h : CC :=
 (.seq (.reg [.o (.move 8 (ci 0))])
 ((.seq (.reg [.o (.move 25 (sl 0)),
 .o (.nilc 26 (sl 25)),
 .o (.fld 27 0 (sl 26)),
 .o (.fld 28 0 (sl 27)),
 .o (.fld 29 0 (sl 28)),
 .o (.load1 30 (sl 29)),
 .o (.move 31 (sl 1)),
 .o (.idx 32 5 (sl 30) (sl 31)),
 .o (.loadN 33 5 (sl 32)),
 .o (.alloc 9 [.v (.int .i64 0), .v (.int .i64 0), .v (.int .i64 0), .v (.int .i64 0), .v (.slice none 0 0)]),
 .o (.store 5 (sl 9) (sl 33))])
 ((.seq (.seq (.reg [.o (.fld 34 0 (sl 9)),
 .o (.load1 35 (sl 34))])
 ((.block 0 (.seq (.reg [.o (.bin 37 .eql (sl 35) (ci 2)),
 .o (.move 36 (sl 37))])
 ((.cond (sl 36) (.seq (.reg [.o (.move 10 (ci 0))])
 ((.seq (.seq (.reg [.o (.move 38 (sl 2)),
 .o (.lenS 39 (sl 38)),
 .o (.move 40 (ci 0))])
 ((.block 1 (.loop (.seq (.reg [.o (.bin 41 .lss (sl 40) (sl 39))])
 ((.seq (.cond (sl 41) .skip
 (.exit 1))
 ((.seq (.block 2 (.seq (.reg [.o (.move 42 (sl 40)),
 .o (.idx 43 1 (sl 38) (sl 40)),
 .o (.load1 44 (sl 43)),
 .o (.move 11 (sl 42)),
 .o (.move 12 (sl 44))])
 ((.seq (.reg [.o (.move 45 (sl 0)),
 .o (.nilc 46 (sl 45)),
 .o (.fld 47 3 (sl 46)),
 .o (.load1 48 (sl 47)),
 .o (.bin 49 .eql (sl 48) (ci 0))])
 ((.cond (sl 49) (.draw [] [(kR, .o (.move 50 (sl 10))),
 (kR, .o (.move 51 (sl 12))),
 (kR, .o (.move 52 (sl 0))),
 (kR, .o (.nilc 53 (sl 52))),
 (kR, .o (.fld 54 0 (sl 53))),
 (kR, .o (.loadN 55 3 (sl 54))),
 (kR, .o (.move 56 (sl 1))),
 (kR, .o (.move 57 (sl 0))),
 (kR, .o (.nilc 58 (sl 57))),
 (kR, .o (.fld 59 4 (sl 58))),
 (kR, .o (.load1 60 (sl 59))),
 (kR, .o (.move 61 (sl 11))),
 (kR, .o (.call (some 62) (cf 85) [(sl 55), (sl 56), (sl 60), (sl 61)])),
 (kR, .o (.bin 63 .mul (sl 51) (sl 62))),
 (kR, .o (.bin 64 .add (sl 50) (sl 63))),
 (kR, .o (.move 10 (sl 64)))])
 (.draw [] [(kR, .o (.move 65 (sl 10))),
 (kR, .o (.move 66 (sl 12))),
 (kR, .o (.move 67 (sl 0))),
 (kR, .o (.nilc 68 (sl 67))),
 (kR, .o (.fld 69 0 (sl 68))),
 (kR, .o (.loadN 70 3 (sl 69))),
 (kR, .o (.move 71 (sl 1))),
 (kR, .o (.move 72 (sl 11))),
 (kR, .o (.move 73 (sl 0))),
 (kR, .o (.nilc 74 (sl 73))),
 (kR, .o (.fld 75 4 (sl 74))),
 (kR, .o (.load1 76 (sl 75))),
 (kR, .o (.call (some 77) (cf 85) [(sl 70), (sl 71), (sl 72), (sl 76)])),
 (kR, .o (.bin 78 .mul (sl 66) (sl 77))),
 (kR, .o (.bin 79 .sub (sl 65) (sl 78))),
 (kR, .o (.move 10 (sl 79)))])))))))
 ((.reg [.o (.bin 80 .add (sl 40) (ci 1)),
 .o (.move 40 (sl 80))])))))))))))
 ((.seq (.reg [.o (.move 81 (sl 10)),
 .o (.move 82 (sl 3)),
 .o (.call (some 83) (cf 55) [(ci 60), (sl 82)]),
 .o (.bin 84 .mul (sl 81) (sl 83)),
 .o (.move 8 (sl 84))])
 (.ret))))))
 (.seq (.reg [.o (.move 86 (sl 0)),
 .o (.nilc 87 (sl 86)),
 .o (.fld 88 3 (sl 87)),
 .o (.load1 89 (sl 88)),
 .o (.bin 90 .eql (sl 35) (sl 89)),
 .o (.move 85 (sl 90))])
 ((.cond (sl 85) (.seq (.reg [.o (.move 13 (ci 0)),
 .o (.move 14 (ci 0))])
 ((.seq (.seq (.reg [.o (.fld 91 4 (sl 9)),
 .o (.load1 92 (sl 91)),
 .o (.lenS 93 (sl 92)),
 .o (.move 94 (ci 0))])
 ((.block 3 (.loop (.seq (.reg [.o (.bin 95 .lss (sl 94) (sl 93))])
 ((.seq (.cond (sl 95) .skip
 (.exit 3))
 ((.seq (.block 4 (.seq (.reg [.o (.move 96 (sl 94)),
 .o (.idx 97 1 (sl 92) (sl 94)),
 .o (.load1 98 (sl 97)),
 .o (.move 15 (sl 96)),
 .o (.move 16 (sl 98))])
 ((.seq (.reg [.o (.move 99 (sl 0)),
 .o (.move 100 (sl 16)),
 .o (.move 101 (sl 2)),
 .o (.move 102 (sl 3)),
 .o (.bin 103 .sub (sl 102) (ci 1)),
 .o (.call (some 104) (cf 79) [(sl 99), (sl 100), (sl 101), (sl 103)]),
 .o (.move 17 (sl 104))])
 ((.seq (.reg [.o (.move 105 (sl 15)),
 .o (.bin 106 .eql (sl 105) (ci 0)),
 .o (.move 107 (sl 106)),
 .g 107 false (some 108) (.move 108 (sl 17)),
 .g 107 false (some 109) (.move 109 (sl 14)),
 .g 107 false (some 110) (.bin 110 .gtr (sl 108) (sl 109)),
 .o (.pick 111 (sl 107) (cb true) (sl 110))])
 ((.cond (sl 111) (.reg [.o (.move 112 (sl 15)),
 .o (.move 113 (sl 17)),
 .o (.move 13 (sl 112)),
 .o (.move 14 (sl 113))])
 .skip))))))))
 ((.reg [.o (.bin 114 .add (sl 94) (ci 1)),
 .o (.move 94 (sl 114))])))))))))))
 ((.seq (.reg [.o (.fld 115 4 (sl 9)),
 .o (.load1 116 (sl 115)),
 .o (.lenS 117 (sl 116)),
 .o (.make 118 [.v (.int .i64 0)] 8 (sl 117) (sl 117)),
 .o (.move 18 (sl 118))])
 ((.seq (.reg [.o (.move 119 (sl 18)),
 .o (.move 120 (sl 13)),
 .o (.idx 121 1 (sl 119) (sl 120)),
 .o (.store 1 (sl 121) (ci 60))])
 ((.seq (.weak (.draw [] [(kR, .o (.move 122 (sl 0))),
 (kR, .o (.nilc 123 (sl 122))),
 (kR, .o (.fld 124 8 (sl 123))),
 (kR, .o (.fld 125 1 (sl 124))),
 (kR, .o (.load1 126 (sl 125))),
 (kR, .o (.move 127 (sl 0))),
 (kR, .o (.nilc 128 (sl 127))),
 (kR, .o (.fld 129 5 (sl 128))),
 (kR, .o (.load1 130 (sl 129))),
 (kR, .o (.move 131 (sl 1))),
 (kR, .o (.idx 132 1 (sl 130) (sl 131))),
 (kR, .o (.load1 133 (sl 132))),
 (kR, .o (.move 134 (sl 0))),
 (kR, .o (.nilc 135 (sl 134))),
 (kR, .o (.fld 136 4 (sl 135))),
 (kR, .o (.load1 137 (sl 136))),
 (kR, .o (.bin 138 .add (sl 133) (sl 137))),
 (kR, .o (.move 139 (sl 18))),
 (kR, .o (.idx 140 1 (sl 126) (sl 138))),
 (kH, .o (.store 1 (sl 140) (sl 139)))]))
 ((.seq (.weak (.reg [.o (.move 141 (sl 14)),
 .o (.bin 142 .mul (sl 141) (ci 60)),
 .o (.move 8 (sl 142))]))
 (.ret))))))))))))
 .skip)))))))))
 ((.seq (.reg [.o (.move 19 (ci 0))])
 ((.seq (.seq (.reg [.o (.fld 143 4 (sl 9)),
 .o (.load1 144 (sl 143)),
 .o (.lenS 145 (sl 144)),
 .o (.move 146 (ci 0))])
 ((.block 5 (.loop (.seq (.reg [.o (.bin 147 .lss (sl 146) (sl 145))])
 ((.seq (.cond (sl 147) .skip
 (.exit 5))
 ((.seq (.block 6 (.seq (.reg [.o (.move 148 (sl 146)),
 .o (.idx 149 1 (sl 144) (sl 146)),
 .o (.load1 150 (sl 149)),
 .o (.move 20 (sl 148)),
 .o (.move 21 (sl 150))])
 ((.seq (.reg [.o (.move 151 (sl 2)),
 .o (.lenS 152 (sl 151)),
 .o (.make 153 [.v (.int .i64 0)] 8 (sl 152) (sl 152)),
 .o (.move 22 (sl 153))])
 ((.seq (.seq (.reg [.o (.move 154 (sl 2)),
 .o (.lenS 155 (sl 154)),
 .o (.move 156 (ci 0))])
 ((.block 7 (.loop (.seq (.reg [.o (.bin 157 .lss (sl 156) (sl 155))])
 ((.seq (.cond (sl 157) .skip
 (.exit 7))
 ((.seq (.block 8 (.seq (.reg [.o (.move 158 (sl 156)),
 .o (.idx 159 1 (sl 154) (sl 156)),
 .o (.load1 160 (sl 159)),
 .o (.move 23 (sl 158)),
 .o (.move 24 (sl 160))])
 ((.draw [] [(kR, .o (.move 161 (sl 22))),
 (kR, .o (.move 162 (sl 23))),
 (kR, .o (.move 163 (sl 24))),
 (kR, .o (.move 164 (sl 0))),
 (kR, .o (.nilc 165 (sl 164))),
 (kR, .o (.fld 166 7 (sl 165))),
 (kR, .o (.load1 167 (sl 166))),
 (kR, .o (.move 168 (sl 0))),
 (kR, .o (.nilc 169 (sl 168))),
 (kR, .o (.fld 170 6 (sl 169))),
 (kR, .o (.load1 171 (sl 170))),
 (kR, .o (.move 172 (sl 1))),
 (kR, .o (.idx 173 1 (sl 171) (sl 172))),
 (kR, .o (.load1 174 (sl 173))),
 (kR, .o (.move 175 (sl 23))),
 (kR, .o (.bin 176 .add (sl 174) (sl 175))),
 (kR, .o (.idx 177 1 (sl 167) (sl 176))),
 (kR, .o (.load1 178 (sl 177))),
 (kR, .o (.move 179 (sl 20))),
 (kR, .o (.idx 180 1 (sl 178) (sl 179))),
 (kR, .o (.load1 181 (sl 180))),
 (kR, .o (.bin 182 .mul (sl 163) (sl 181))),
 (kR, .o (.idx 183 1 (sl 161) (sl 162))),
 (kH, .o (.store 1 (sl 183) (sl 182)))]))))
 ((.reg [.o (.bin 184 .add (sl 156) (ci 1)),
 .o (.move 156 (sl 184))])))))))))))
 ((.weak (.reg [.o (.move 185 (sl 19)),
 .o (.move 186 (sl 0)),
 .o (.move 187 (sl 21)),
 .o (.move 188 (sl 22)),
 .o (.move 189 (sl 3)),
 .o (.bin 190 .sub (sl 189) (ci 1)),
 .o (.call (some 191) (cf 79) [(sl 186), (sl 187), (sl 188), (sl 190)]),
 .o (.bin 192 .add (sl 185) (sl 191)),
 .o (.move 19 (sl 192))])))))))))
 ((.reg [.o (.bin 193 .add (sl 146) (ci 1)),
 .o (.move 146 (sl 193))])))))))))))
 ((.seq (.reg [.o (.move 194 (sl 19)),
 .o (.move 8 (sl 194))])
 (.ret))))))))))))
theorem fun___impl_responder__respond_h {rin : List T} {args : List A} {Q : List T → T → Prop} (ha : args.length ≤ 195) (h : cW Tryd.prog 195 c___impl_responder__respond_h (retP Tryd.prog [.tmp 8] rin.length Q) (St.of (enum 0 args) (enum 1000000000 rin))) :
    Fun Tryd.prog 79 rin args Q :=
  Fun.of (H := ⟨[], [24, 25, 36]⟩) Tryd.func79 rfl rfl rfl (by kernel_rfl) ha (by decide) h

def c_spec_l24Run_h : CC :=
 (.seq (.reg [.o (.box 2 (sl 0)),
 .o (.box 3 (sl 1)),
 .o (.move 4 (ci 0)),
 .o (.alloc 5 [.v (.int .i64 0), .v (.slice none 0 0)])])
 ((.seq (.reg [.o (.loadN 13 3 (sl 2)),
 .o (.fld 14 0 (sl 3)),
 .o (.load1 15 (sl 14)),
 .o (.bin 16 .sub (ci 1) (sl 15)),
 .o (.loadN 17 2 (sl 3)),
 .o (.build 18 [.v (.slice none 0 0), .v (.slice none 0 0), .v (.slice none 0 0), .v (.int .i64 0), .v (.int .i64 0), .v (.slice none 0 0), .v (.slice none 0 0)] [(0, 3), (3, 1), (4, 2), (6, 1)] [(0, (sl 13)), (1, (sl 16)), (2, (sl 17))]),
 .o (.box 19 (sl 18)),
 .o (.move 6 (sl 19))])
 ((.seq (.draw [26, 28] [(kR, .o (.move 20 (sl 6))),
 (kR, .o (.loadN 21 3 (sl 2))),
 (kR, .o (.move 22 (sl 6))),
 (kR, .o (.nilc 23 (sl 22))),
 (kR, .o (.fld 24 3 (sl 23))),
 (kR, .o (.load1 25 (sl 24))),
 (.c false [], .o (.call (some 26) (cf 36) [(sl 21), (sl 25)])),
 (kR, .o (.lenS 27 (sl 26))),
 (kN, .o (.make 28 [.v (.slice none 0 0)] 24 (sl 27) (sl 27))),
 (kR, .o (.nilc 29 (sl 20))),
 (kR, .o (.fld 30 6 (sl 29))),
 (kH, .o (.store 1 (sl 30) (sl 28)))])
 ((.seq (.reg [.o (.move 7 (ci 0))])
 ((.seq (.seq (.reg [.o (.move 8 (ci 0))])
 ((.block 0 (.loop (.seq (.seq (.reg [.o (.move 31 (sl 8)),
 .o (.fld 32 1 (sl 2)),
 .o (.load1 33 (sl 32)),
 .o (.lenS 34 (sl 33)),
 .o (.bin 35 .lss (sl 31) (sl 34))])
 ((.cond (sl 35) .skip
 (.exit 0))))
 ((.seq (.block 1 (.seq (.reg [.o (.bslice 38 1 0 []),
 .o (.move 9 (sl 38))])
 ((.seq (.seq (.reg [.o (.move 10 (ci 0))])
 ((.block 2 (.loop (.seq (.seq (.reg [.o (.move 39 (sl 10)),
 .o (.fld 40 1 (sl 2)),
 .o (.load1 41 (sl 40)),
 .o (.lenS 42 (sl 41)),
 .o (.bin 43 .lss (sl 39) (sl 42))])
 ((.cond (sl 43) .skip
 (.exit 2))))
 ((.seq (.block 3 (.seq (.reg [.o (.move 47 (sl 6)),
 .o (.move 48 (sl 8)),
 .o (.move 49 (sl 10)),
 .o (.call (some 50) (cf 91) [(sl 47), (sl 48), (sl 49)]),
 .o (.move 46 (sl 50)),
 .o (.extract 51 (sl 46) 0),
 .o (.extract 52 (sl 46) 1),
 .o (.move 11 (sl 51)),
 .o (.move 12 (sl 52))])
 ((.reg [.o (.move 53 (sl 9)),
 .o (.fld 54 1 (sl 2)),
 .o (.load1 55 (sl 54)),
 .o (.move 56 (sl 11)),
 .o (.idx 57 1 (sl 55) (sl 56)),
 .o (.load1 58 (sl 57)),
 .o (.move 59 (sl 12)),
 .o (.idx 60 1 (sl 58) (sl 59)),
 .o (.load1 61 (sl 60)),
 .o (.bslice 62 1 1 [(0, (sl 61))]),
 .o (.app 63 1 8 (sl 53) (sl 62)),
 .o (.move 9 (sl 63))]))))
 ((.reg [.o (.move 44 (sl 10)),
 .o (.bin 45 .add (sl 44) (ci 1)),
 .o (.move 10 (sl 45))])))))))))
 ((.weak (.reg [.o (.move 64 (sl 7)),
 .o (.move 65 (sl 6)),
 .o (.move 66 (sl 8)),
 .o (.move 67 (sl 9)),
 .o (.fld 68 0 (sl 2)),
 .o (.loadN 69 1 (sl 68)),
 .o (.call (some 70) (cf 40) [(sl 69), (ci 0)]),
 .o (.call (some 71) (cf 92) [(sl 65), (ci 0), (sl 66), (sl 67), (sl 70)]),
 .o (.bin 72 .add (sl 64) (sl 71)),
 .o (.move 7 (sl 72))])))))))
 ((.reg [.o (.move 36 (sl 8)),
 .o (.bin 37 .add (sl 36) (ci 1)),
 .o (.move 8 (sl 37))])))))))))
 ((.seq (.weak (.draw [] [(kR, .o (.move 73 (sl 7))),
 (kR, .o (.move 74 (sl 6))),
 (kR, .o (.nilc 75 (sl 74))),
 (kR, .o (.fld 76 3 (sl 75))),
 (kR, .o (.load1 77 (sl 76))),
 (kR, .o (.move 78 (sl 6))),
 (kR, .o (.nilc 79 (sl 78))),
 (kR, .o (.fld 80 6 (sl 79))),
 (kR, .o (.load1 81 (sl 80))),
 (kR, .o (.build 82 [.v (.int .i64 0), .v (.slice none 0 0)] [(0, 1), (1, 1)] [(0, (sl 77)), (1, (sl 81))])),
 (kR, .o (.move 4 (sl 73))),
 (kH, .o (.store 2 (sl 5) (sl 82)))]))
 (.ret))))))))))))
theorem fun_spec_l24Run_h {rin : List T} {args : List A} {Q : List T → T → Prop} (ha : args.length ≤ 83) (h : cW Tryd.prog 83 c_spec_l24Run_h (retP Tryd.prog [.tmp 4, .cell 5 42] rin.length Q) (St.of (enum 0 args) (enum 1000000000 rin))) :
    Fun Tryd.prog 84 rin args Q :=
  Fun.of (H := ⟨[], [13, 14]⟩) Tryd.func84 rfl rfl rfl (by kernel_rfl) ha (by decide) h

def c_spec_l24Visit_h : CC :=
 (.seq (.reg [.o (.move 10 (ci 0))])
 ((.seq (.reg [.o (.move 26 (sl 0)),
 .o (.nilc 27 (sl 26)),
 .o (.fld 28 0 (sl 27)),
 .o (.fld 29 0 (sl 28)),
 .o (.fld 30 0 (sl 29)),
 .o (.load1 31 (sl 30)),
 .o (.move 32 (sl 1)),
 .o (.idx 33 5 (sl 31) (sl 32)),
 .o (.loadN 34 5 (sl 33)),
 .o (.alloc 11 [.v (.int .i64 0), .v (.int .i64 0), .v (.int .i64 0), .v (.int .i64 0), .v (.slice none 0 0)]),
 .o (.store 5 (sl 11) (sl 34))])
 ((.seq (.seq (.reg [.o (.fld 35 0 (sl 11)),
 .o (.load1 36 (sl 35))])
 ((.block 0 (.seq (.reg [.o (.bin 38 .eql (sl 36) (ci 2)),
 .o (.move 37 (sl 38))])
 ((.cond (sl 37) (.seq (.reg [.o (.move 12 (ci 0))])
 ((.seq (.seq (.reg [.o (.move 13 (ci 0))])
 ((.block 1 (.loop (.seq (.seq (.reg [.o (.move 39 (sl 13)),
 .o (.move 40 (sl 3)),
 .o (.lenS 41 (sl 40)),
 .o (.bin 42 .lss (sl 39) (sl 41))])
 ((.cond (sl 42) .skip
 (.exit 1))))
 ((.seq (.block 2 (.seq (.reg [.o (.move 46 (sl 0)),
 .o (.move 47 (sl 2)),
 .o (.move 48 (sl 13)),
 .o (.call (some 49) (cf 91) [(sl 46), (sl 47), (sl 48)]),
 .o (.move 45 (sl 49)),
 .o (.extract 50 (sl 45) 0),
 .o (.extract 51 (sl 45) 1),
 .o (.move 14 (sl 50)),
 .o (.move 15 (sl 51))])
 ((.seq (.reg [.o (.move 52 (sl 0)),
 .o (.nilc 53 (sl 52)),
 .o (.fld 54 0 (sl 53)),
 .o (.loadN 55 3 (sl 54)),
 .o (.move 56 (sl 1)),
 .o (.move 57 (sl 14)),
 .o (.move 58 (sl 15)),
 .o (.call (some 59) (cf 98) [(sl 55), (sl 56), (sl 57), (sl 58)]),
 .o (.move 16 (sl 59))])
 ((.seq (.seq (.reg [.o (.move 60 (sl 0)),
 .o (.nilc 61 (sl 60)),
 .o (.fld 62 3 (sl 61)),
 .o (.load1 63 (sl 62)),
 .o (.bin 64 .eql (sl 63) (ci 1))])
 ((.cond (sl 64) (.reg [.o (.move 65 (sl 16)),
 .o (.un 66 .neg (sl 65)),
 .o (.move 16 (sl 66))])
 .skip)))
 ((.draw [] [(kR, .o (.move 67 (sl 12))),
 (kR, .o (.move 68 (sl 3))),
 (kR, .o (.move 69 (sl 13))),
 (kR, .o (.idx 70 1 (sl 68) (sl 69))),
 (kR, .o (.load1 71 (sl 70))),
 (kR, .o (.move 72 (sl 16))),
 (kR, .o (.bin 73 .mul (sl 71) (sl 72))),
 (kR, .o (.move 74 (sl 4))),
 (kR, .o (.call (some 75) (cf 39) [(sl 74)])),
 (kR, .o (.bin 76 .mul (sl 73) (sl 75))),
 (kR, .o (.bin 77 .add (sl 67) (sl 76))),
 (kR, .o (.move 12 (sl 77)))]))))))))
 ((.reg [.o (.move 43 (sl 13)),
 .o (.bin 44 .add (sl 43) (ci 1)),
 .o (.move 13 (sl 44))])))))))))
 ((.seq (.reg [.o (.move 78 (sl 12)),
 .o (.move 10 (sl 78))])
 (.ret))))))
 (.seq (.reg [.o (.move 80 (sl 0)),
 .o (.nilc 81 (sl 80)),
 .o (.fld 82 3 (sl 81)),
 .o (.load1 83 (sl 82)),
 .o (.bin 84 .eql (sl 36) (sl 83)),
 .o (.move 79 (sl 84))])
 ((.cond (sl 79) (.seq (.reg [.o (.move 17 (ci 0)),
 .o (.move 18 (ci 0))])
 ((.seq (.seq (.reg [.o (.move 19 (ci 0))])
 ((.block 3 (.loop (.seq (.seq (.reg [.o (.move 85 (sl 19)),
 .o (.fld 86 4 (sl 11)),
 .o (.load1 87 (sl 86)),
 .o (.lenS 88 (sl 87)),
 .o (.bin 89 .lss (sl 85) (sl 88))])
 ((.cond (sl 89) .skip
 (.exit 3))))
 ((.seq (.block 4 (.seq (.reg [.o (.move 92 (sl 0)),
 .o (.fld 93 4 (sl 11)),
 .o (.load1 94 (sl 93)),
 .o (.move 95 (sl 19)),
 .o (.idx 96 1 (sl 94) (sl 95)),
 .o (.load1 97 (sl 96)),
 .o (.move 98 (sl 2)),
 .o (.move 99 (sl 3)),
 .o (.move 100 (sl 4)),
 .o (.call (some 101) (cf 92) [(sl 92), (sl 97), (sl 98), (sl 99), (sl 100)]),
 .o (.move 20 (sl 101))])
 ((.seq (.reg [.o (.move 102 (sl 19)),
 .o (.bin 103 .eql (sl 102) (ci 0)),
 .o (.move 104 (sl 103)),
 .g 104 false (some 105) (.move 105 (sl 20)),
 .g 104 false (some 106) (.move 106 (sl 18)),
 .g 104 false (some 107) (.bin 107 .gtr (sl 105) (sl 106)),
 .o (.pick 108 (sl 104) (cb true) (sl 107))])
 ((.cond (sl 108) (.reg [.o (.move 109 (sl 19)),
 .o (.move 110 (sl 20)),
 .o (.move 17 (sl 109)),
 .o (.move 18 (sl 110))])
 .skip))))))
 ((.reg [.o (.move 90 (sl 19)),
 .o (.bin 91 .add (sl 90) (ci 1)),
 .o (.move 19 (sl 91))])))))))))
 ((.seq (.reg [.o (.fld 111 4 (sl 11)),
 .o (.load1 112 (sl 111)),
 .o (.lenS 113 (sl 112)),
 .o (.make 114 [.v (.int .i64 0)] 8 (sl 113) (sl 113)),
 .o (.move 21 (sl 114))])
 ((.seq (.reg [.o (.move 115 (sl 21)),
 .o (.move 116 (sl 17)),
 .o (.idx 117 1 (sl 115) (sl 116)),
 .o (.store 1 (sl 117) (ci 60))])
 ((.seq (.weak (.draw [] [(kR, .o (.move 118 (sl 0))),
 (kR, .o (.nilc 119 (sl 118))),
 (kR, .o (.fld 120 6 (sl 119))),
 (kR, .o (.load1 121 (sl 120))),
 (kR, .o (.move 122 (sl 0))),
 (kR, .o (.nilc 123 (sl 122))),
 (kR, .o (.fld 124 0 (sl 123))),
 (kR, .o (.loadN 125 3 (sl 124))),
 (kR, .o (.move 126 (sl 0))),
 (kR, .o (.nilc 127 (sl 126))),
 (kR, .o (.fld 128 3 (sl 127))),
 (kR, .o (.load1 129 (sl 128))),
 (kR, .o (.move 130 (sl 1))),
 (kR, .o (.move 131 (sl 2))),
 (kR, .o (.call (some 132) (cf 99) [(sl 125), (sl 129), (sl 130), (sl 131)])),
 (kR, .o (.move 133 (sl 21))),
 (kR, .o (.idx 134 1 (sl 121) (sl 132))),
 (kH, .o (.store 1 (sl 134) (sl 133)))]))
 ((.seq (.weak (.reg [.o (.move 135 (sl 18)),
 .o (.move 10 (sl 135))]))
 (.ret))))))))))))
 .skip)))))))))
 ((.seq (.reg [.o (.move 22 (ci 0))])
 ((.seq (.seq (.reg [.o (.move 23 (ci 0))])
 ((.block 5 (.loop (.seq (.seq (.reg [.o (.move 136 (sl 23)),
 .o (.fld 137 4 (sl 11)),
 .o (.load1 138 (sl 137)),
 .o (.lenS 139 (sl 138)),
 .o (.bin 140 .lss (sl 136) (sl 139))])
 ((.cond (sl 140) .skip
 (.exit 5))))
 ((.seq (.block 6 (.seq (.reg [.o (.bslice 143 1 0 []),
 .o (.move 24 (sl 143))])
 ((.seq (.seq (.reg [.o (.move 25 (ci 0))])
 ((.block 7 (.loop (.seq (.seq (.reg [.o (.move 144 (sl 25)),
 .o (.move 145 (sl 3)),
 .o (.lenS 146 (sl 145)),
 .o (.bin 147 .lss (sl 144) (sl 146))])
 ((.cond (sl 147) .skip
 (.exit 7))))
 ((.seq (.block 8 (.draw [178] [(kR, .o (.move 150 (sl 24))),
 (kR, .o (.move 151 (sl 3))),
 (kR, .o (.move 152 (sl 25))),
 (kR, .o (.idx 153 1 (sl 151) (sl 152))),
 (kR, .o (.load1 154 (sl 153))),
 (kR, .o (.move 155 (sl 0))),
 (kR, .o (.nilc 156 (sl 155))),
 (kR, .o (.fld 157 4 (sl 156))),
 (kR, .o (.fld 158 1 (sl 157))),
 (kR, .o (.load1 159 (sl 158))),
 (kR, .o (.move 160 (sl 0))),
 (kR, .o (.nilc 161 (sl 160))),
 (kR, .o (.fld 162 0 (sl 161))),
 (kR, .o (.loadN 163 3 (sl 162))),
 (kR, .o (.move 164 (sl 0))),
 (kR, .o (.nilc 165 (sl 164))),
 (kR, .o (.fld 166 3 (sl 165))),
 (kR, .o (.load1 167 (sl 166))),
 (kR, .o (.bin 168 .sub (ci 1) (sl 167))),
 (kR, .o (.move 169 (sl 1))),
 (kR, .o (.move 170 (sl 25))),
 (kR, .o (.call (some 171) (cf 99) [(sl 163), (sl 168), (sl 169), (sl 170)])),
 (kR, .o (.idx 172 1 (sl 159) (sl 171))),
 (kR, .o (.load1 173 (sl 172))),
 (kR, .o (.move 174 (sl 23))),
 (kR, .o (.idx 175 1 (sl 173) (sl 174))),
 (kR, .o (.load1 176 (sl 175))),
 (kR, .o (.bin 177 .mul (sl 154) (sl 176))),
 (kN, .o (.bslice 178 1 1 [(0, (sl 177))])),
 (kH, .o (.app 179 1 8 (sl 150) (sl 178))),
 (kR, .o (.move 24 (sl 179)))]))
 ((.reg [.o (.move 148 (sl 25)),
 .o (.bin 149 .add (sl 148) (ci 1)),
 .o (.move 25 (sl 149))])))))))))
 ((.weak (.reg [.o (.move 180 (sl 22)),
 .o (.move 181 (sl 0)),
 .o (.fld 182 4 (sl 11)),
 .o (.load1 183 (sl 182)),
 .o (.move 184 (sl 23)),
 .o (.idx 185 1 (sl 183) (sl 184)),
 .o (.load1 186 (sl 185)),
 .o (.move 187 (sl 2)),
 .o (.move 188 (sl 24)),
 .o (.move 189 (sl 4)),
 .o (.bin 190 .sub (sl 189) (ci 1)),
 .o (.call (some 191) (cf 92) [(sl 181), (sl 186), (sl 187), (sl 188), (sl 190)]),
 .o (.bin 192 .add (sl 180) (sl 191)),
 .o (.move 22 (sl 192))])))))))
 ((.reg [.o (.move 141 (sl 23)),
 .o (.bin 142 .add (sl 141) (ci 1)),
 .o (.move 23 (sl 142))])))))))))
 ((.seq (.reg [.o (.move 193 (sl 22)),
 .o (.move 10 (sl 193))])
 (.ret))))))))))))
theorem fun_spec_l24Visit_h {rin : List T} {args : List A} {Q : List T → T → Prop} (ha : args.length ≤ 194) (h : cW Tryd.prog 194 c_spec_l24Visit_h (retP Tryd.prog [.tmp 10] rin.length Q) (St.of (enum 0 args) (enum 1000000000 rin))) :
    Fun Tryd.prog 92 rin args Q :=
  Fun.of (H := ⟨[], [25, 35]⟩) Tryd.func92 rfl rfl rfl (by kernel_rfl) ha (by decide) h

end Go.Ab

/- Contracts: best responses, the reference's. -/
set_option linter.unusedSimpArgs false
set_option linter.unusedVariables false
namespace Go.Ab
open Go.Proofs

def srch (g : Gm) (ot : List (List Int)) (pl : Int) (B : List (List Int)) : T := .box [nodes g.nd, rows g.w, rows g.v, .i pl, .i (1 - pl), rows ot, rowsO B]
def fstC (pl a b : Int) : Int := if pl = 0 then a else b
def capOK (reach : List Int) (p : Nat) : Prop := sumI reach * pw p ≤ 41990400000
def capV : Int := 4199040000000
theorem sumI_mem_le : ∀ {l : List Int}, (∀ x ∈ l, 0 ≤ x) → ∀ x ∈ l, x ≤ sumI l
  | [], _, x, h => by simp at h
  | y :: l, h0, x, h => by
    have h1 := sumI_nonneg (l := l) fun z hz => h0 z (by simp [hz])
    have h2 := h0 y (by simp)
    rw [sumI]
    rcases List.mem_cons.1 h with rfl | h
    · omega
    · have := sumI_mem_le (l := l) (fun z hz => h0 z (by simp [hz])) x h; omega
def payF (g : Gm) (pl : Int) (i own c : Nat) : Int := if pl = 0 then pay g i own c else pay g i c own
theorem payP_F (g : Gm) (pl : Int) (i own c : Nat) : payP g pl i own c = if pl = 0 then payF g pl i own c else -payF g pl i own c := by
  unfold payP payF; split <;> rfl
theorem reach_pos {reach : List Int} (h0 : ∀ x ∈ reach, 0 ≤ x) (c : Nat) : 0 ≤ reach.getD c 0 ∧ reach.getD c 0 ≤ sumI reach := by
  rw [List.getD_eq_getElem?_getD]
  cases h : reach[c]? with
  | none => exact ⟨by simp, by simpa using sumI_nonneg h0⟩
  | some y => exact ⟨h0 y (List.mem_of_getElem? h), sumI_mem_le h0 y (List.mem_of_getElem? h)⟩
theorem term_abs {reach : List Int} {p : Nat} (h0 : ∀ x ∈ reach, 0 ≤ x) (hc : capOK reach p) {c : Nat} {y : Int} (h1 : -100 ≤ y) (h2 : y ≤ 100) : (-capV ≤ reach.getD c 0 * y * pw p ∧ reach.getD c 0 * y * pw p ≤ capV) ∧ (-4199040000000 ≤ reach.getD c 0 * y ∧ reach.getD c 0 * y ≤ 4199040000000) := by
  obtain ⟨r1, r2⟩ := reach_pos h0 c
  have hp := pw_pos p
  obtain ⟨m1, m2⟩ := mul_abs r1 h1 h2
  have k1 := Int.mul_le_mul_of_nonneg_right m1 (Int.le_of_lt hp)
  have k2 := Int.mul_le_mul_of_nonneg_right m2 (Int.le_of_lt hp)
  have k3 := Int.mul_le_mul_of_nonneg_right r2 (Int.le_of_lt hp)
  have k4 : reach.getD c 0 ≤ reach.getD c 0 * pw p := by
    have := Int.mul_le_mul_of_nonneg_left (show (1 : Int) ≤ pw p by omega) r1
    omega
  rw [Int.neg_mul, Int.mul_assoc 100] at k1
  rw [Int.mul_assoc 100] at k2
  unfold capOK at hc
  unfold capV
  refine ⟨⟨by omega, by omega⟩, by omega, by omega⟩
def cntA (vs : List Int) (k : Nat) : Int := if k = 0 then 0 else vs.getD (argmax.go k vs) 0
theorem go_take {vs : List Int} {k : Nat} {n : Int} (h : vs[k]? = some n) : argmax.go (k + 1) vs = (if k = 0 ∨ n > cntA vs k then k else argmax.go k vs) ∧ cntA vs (k + 1) = (if k = 0 ∨ n > cntA vs k then n else cntA vs k) := by
  have hd : vs.getD k 0 = n := by rw [List.getD_eq_getElem?_getD, h]; rfl
  unfold cntA
  rw [argmax_go_succ, hd]
  by_cases h0 : k = 0
  · subst h0; simp [hd]; rw [List.getD_eq_getElem?_getD] at hd; exact hd
  · rw [if_neg h0, if_neg h0, if_neg (by omega : ¬ k + 1 = 0)]
    by_cases h1 : vs.getD (argmax.go k vs) 0 < n
    · rw [if_pos h1, if_pos (.inr h1), if_pos (.inr h1)]; exact ⟨rfl, hd⟩
    · rw [if_neg h1, if_neg (by rintro (h | h); exact h0 h; exact h1 h), if_neg (by rintro (h | h); exact h0 h; exact h1 h)]; exact ⟨rfl, rfl⟩
theorem foldl_snoc {α β : Type} (F : β → α → β) (l : List α) (b : β) {k : Nat} {c : α} (h : l[k]? = some c) : (l.take (k + 1)).foldl F b = F ((l.take k).foldl F b) c := by
  rw [take_snoc h, List.foldl_append]; rfl
def tS (g : Gm) (pl : Int) (i own : Nat) (reach : List Int) (p k : Nat) : Int := sumI ((List.range k).map fun c => reach.getD c 0 * payP g pl i own c) * pw p
theorem tS_succ (g : Gm) (pl : Int) (i own : Nat) (reach : List Int) (p k : Nat) : tS g pl i own reach p (k + 1) = tS g pl i own reach p k + reach.getD k 0 * payP g pl i own k * pw p := by
  unfold tS
  rw [List.range_succ, List.map_append, List.map_cons, List.map_nil, sumI_snoc, Int.add_mul]
theorem tS_abs {g : Gm} {pl : Int} {i own : Nat} {reach : List Int} {p : Nat} (hp : payOK g) (h0 : ∀ x ∈ reach, 0 ≤ x) (hc : capOK reach p) : ∀ k, -(k * capV) ≤ tS g pl i own reach p k ∧ tS g pl i own reach p k ≤ k * capV
  | 0 => by simp [tS, sumI]
  | k + 1 => by
    have ih := tS_abs (pl := pl) (i := i) (own := own) hp h0 hc k
    obtain ⟨h1, h2⟩ := payP_abs hp pl i own k
    have h3 := (term_abs h0 hc (c := k) h1 h2).1
    rw [tS_succ]
    have e : ((k + 1 : Nat) : Int) * capV = k * capV + capV := by rw [Int.natCast_add, Int.add_mul]; simp
    omega
theorem capOK_next {g : Gm} {ot : List (List Int)} {pl : Int} (hot : partsOK g ot (1 - pl)) {i : Nat} {reach : List Int} (hi : i < g.nd.length) (hr : reach.length = g.w.length) (hp : (g.nd.getD i nd0).p = 1 - pl) (h0 : ∀ x ∈ reach, 0 ≤ x) {p : Nat} (hc : capOK reach (p + 1)) {k : Nat} (hk : k < (g.nd.getD i nd0).ch.length) : capOK (nextR g ot pl i reach k) p := by
  have hs := nextR_sum hot hi hr hp
  have hle : sumI (nextR g ot pl i reach k) ≤ 60 * sumI reach := by
    rw [← hs]
    refine sumI_mem_le (fun x hx => ?_) _ (List.mem_map.2 ⟨k, List.mem_range.2 hk, rfl⟩)
    obtain ⟨k', _, rfl⟩ := List.mem_map.1 hx
    exact sumI_nonneg (nextR_nonneg hot hi hr hp h0 k')
  have h1 := Int.mul_le_mul_of_nonneg_right hle (Int.le_of_lt (pw_pos p))
  unfold capOK at hc ⊢
  rw [pw_succ, ← Int.mul_assoc, Int.mul_comm (sumI reach) 60] at hc
  omega
theorem sumI_range_abs {G : Nat → Int} {c : Int} : ∀ {n : Nat}, (∀ k, k < n → -c ≤ G k ∧ G k ≤ c) → -(n * c) ≤ sumI ((List.range n).map G) ∧ sumI ((List.range n).map G) ≤ n * c
  | 0, _ => by simp [sumI]
  | n + 1, h => by
    have ih := sumI_range_abs (n := n) fun k hk => h k (by omega)
    have h1 := h n (by omega)
    rw [List.range_succ, List.map_append, List.map_cons, List.map_nil, sumI_snoc]
    have e : ((n + 1 : Nat) : Int) * c = n * c + c := by rw [Int.natCast_add, Int.add_mul]; simp
    omega
theorem bestV_cap {g : Gm} {ot : List (List Int)} {pl : Int} {own : Nat} (hnd : ndsOK g.nd) (hpl : pl = 0 ∨ pl = 1) (hot : partsOK g ot (1 - pl)) {f i : Nat} {reach : List Int} {p : Nat} (hi : i < g.nd.length) (hr : reach.length = g.w.length) (h0 : ∀ x ∈ reach, 0 ≤ x) (hd : dep g.nd f i ≤ p) (hc : capOK reach p) : -capV ≤ bestV g ot pl own f i reach p ∧ bestV g ot pl own f i reach p ≤ capV := by
  have h := bestV_abs (own := own) hnd hpl hot (payOK_of hnd) f i reach p hi hr h0 hd
  rw [Int.mul_assoc] at h
  unfold capOK at hc
  unfold capV
  omega
def nilO (r : Nat) (K : A → Prop) : Root → Prop
  | .live (.box _) _ => K (.own r)
  | _ => False
theorem nilCheckW_own {r : Nat} {S : St} {K : A → Prop} : nilCheckW (.own r) S K = nilO r K (S.roots r) := by
  show (match S.roots r with | .live (.box _) _ => K (.own r) | _ => False) = _
  cases S.roots r with
  | live t lk => cases t <;> rfl
  | _ => rfl
theorem nilCheckW_ptr {r off : Nat} {S : St} {K : A → Prop} : nilCheckW (.ptr r off) S K = K (.ptr r off) := rfl
theorem nilCheckW_pin {l : List T} {off : Nat} {S : St} {K : A → Prop} : nilCheckW (.t (.pin l off)) S K = K (.t (.pin l off)) := rfl
attribute [go_sem] nilCheckW_own nilCheckW_ptr nilCheckW_pin nilO
section
attribute [-go_sem] load1C load1V fldC lenC idxC loadNV nilCheckW
theorem spec_l24Deal_ok (g : Gm) (ot B : List (List Int)) (pl a b : Int) : Fun Tryd.prog 91 [srch g ot pl B] [.own 1000000000, .t (.i a), .t (.i b)] fun o r => o = [srch g ot pl B] ∧ r = .tup [.i (fstC pl a b), .i (fstC pl b a)] := by
  refine fun_spec_l24Deal (by simp) ?_
  simp -implicitDefEqProofs only [go_sem, evR, ints, rows, rat, rats, c_spec_l24Deal, srch]
  refine ⟨fun h => ?_, fun h => ?_⟩
  · have h : pl = 0 := by simpa using h
    rw [fstC, fstC, if_pos h, if_pos h]
  · have h : ¬ pl = 0 := by simpa using h
    rw [fstC, fstC, if_neg h, if_neg h]
theorem l24Deal_t (g : Gm) (ot B : List (List Int)) (pl a b : Int) : Fun Tryd.prog 91 [.box [.sh 5 (chunk nodeC g.nd), .sh 1 (g.w.map ints), .sh 1 (g.v.map ints), .i pl, .i (1 - pl), .sh 1 (ot.map ints), rowsO B]] [.own 1000000000, .t (.i a), .t (.i b)] fun o r => o = [.box [.sh 5 (chunk nodeC g.nd), .sh 1 (g.w.map ints), .sh 1 (g.v.map ints), .i pl, .i (1 - pl), .sh 1 (ot.map ints), rowsO B]] ∧ r = .tup [.i (fstC pl a b), .i (fstC pl b a)] := spec_l24Deal_ok g ot B pl a b
theorem spec_payF {g : Gm} (hg : isGameB g = true) (pl : Int) {i own c : Nat} (hi : i < g.nd.length) (ha : own < g.w.length) (hb : c < g.w.length) : Pure Tryd.prog 98 [.agg [.sh 5 (chunk nodeC g.nd), .sh 1 (g.w.map ints), .sh 1 (g.v.map ints)], .i i, .i (fstC pl own c), .i (fstC pl c own)] (.i (payF g pl i own c)) := by
  unfold fstC payF
  by_cases h : pl = 0
  · rw [if_pos h, if_pos h, if_pos h]; exact spec_l21Payoff_ok g hg i own c hi ha hb
  · rw [if_neg h, if_neg h, if_neg h]; exact spec_l21Payoff_ok g hg i c own hi hb ha
theorem l23Set_t {g : Gm} (hg : isGameB g = true) {pl : Int} {i c : Nat} (hi : i < g.nd.length) (hp : (g.nd.getD i nd0).p = pl) (hc : c < g.w.length) : Pure Tryd.prog 99 [.agg [.sh 5 (chunk nodeC g.nd), .sh 1 (g.w.map ints), .sh 1 (g.v.map ints)], .i pl, .i i, .i c] (.i (setI g pl i c)) := spec_l23Set_ok g hg pl i c hi hp hc
set_option maxRecDepth 20000 in
theorem spec_l24Visit_ok {g : Gm} {ot : List (List Int)} {pl : Int} {own : Nat} (hg : isGameB g = true) (hpl : pl = 0 ∨ pl = 1) (hot : partsOK g ot (1 - pl)) (hown : own < g.w.length) : ∀ (f i : Nat) (reach : List Int) (p : Nat) (B : List (List Int)), g.nd.length ≤ i + f → i < g.nd.length → reach.length = g.w.length → (∀ x ∈ reach, 0 ≤ x) → dep g.nd f i ≤ p → p ≤ 5 → capOK reach p → rows4 (sets g pl).length B →
    Fun Tryd.prog 92 [srch g ot pl B] [.own 1000000000, .t (.i i), .t (.i own), .t (ints reach), .t (.i p)] fun o r => o = [srch g ot pl (bestB g ot pl own f i reach p B)] ∧ r = .i (bestV g ot pl own f i reach p) := by
  obtain ⟨p1, p2, p3, p4, p5⟩ := isGameB_parts hg
  obtain ⟨t1, t2, t3, t4⟩ := isTreeB_spec p1
  have hpay := payOK_of t2
  intro f
  induction f with
  | zero => intro i reach p B h1 h2; omega
  | succ f ih =>
    intro i reach p B hf hi hrl hr0 hdp hp5 hcap hBl
    obtain ⟨x, hx⟩ : ∃ x, g.nd[i]? = some x := ⟨_, List.getElem?_eq_getElem hi⟩
    have hxd : g.nd.getD i nd0 = x := by rw [List.getD_eq_getElem?_getD, hx]; rfl
    have hxl := (ndOK_fields (t2 _ _ hx)).2.2.2.2.2
    have hB2 : x.p = 2 → bestB g ot pl own (f + 1) i reach p B = B := fun h => by rw [bestB]; simp only [hxd]; rw [if_pos h]
    have hV2 : x.p = 2 → bestV g ot pl own (f + 1) i reach p = tS g pl i own reach p reach.length := fun h => by rw [bestV]; simp only [hxd]; rw [if_pos h]; rfl
    have hB1 : x.p ≠ 2 → x.p = pl → bestB g ot pl own (f + 1) i reach p B = (x.ch.foldl (fun B c => bestB g ot pl own f c.toNat reach p B) B).set (setI g pl i own) ((List.replicate x.ch.length 0).set (argmax (x.ch.map fun c => bestV g ot pl own f c.toNat reach p)) 60) := fun h h' => by rw [bestB]; simp only [hxd]; rw [if_neg h, if_pos h']
    have hV1 : x.p ≠ 2 → x.p = pl → bestV g ot pl own (f + 1) i reach p = (x.ch.map fun c => bestV g ot pl own f c.toNat reach p).getD (argmax (x.ch.map fun c => bestV g ot pl own f c.toNat reach p)) 0 := fun h h' => by rw [bestV]; simp only [hxd]; rw [if_neg h, if_pos h']
    have hB0 : x.p ≠ 2 → x.p ≠ pl → bestB g ot pl own (f + 1) i reach p B = (List.range x.ch.length).foldl (fun B k => bestB g ot pl own f (x.ch.getD k 0).toNat (nextR g ot pl i reach k) (p - 1) B) B := fun h h' => by rw [bestB]; simp only [hxd]; rw [if_neg h, if_neg h']
    have hV0 : x.p ≠ 2 → x.p ≠ pl → bestV g ot pl own (f + 1) i reach p = sumI ((List.range x.ch.length).map fun k => bestV g ot pl own f (x.ch.getD k 0).toNat (nextR g ot pl i reach k) (p - 1)) := fun h h' => by rw [bestV]; simp only [hxd]; rw [if_neg h, if_neg h']
    generalize bestB g ot pl own (f + 1) i reach p B = B' at hB2 hB1 hB0 ⊢
    generalize bestV g ot pl own (f + 1) i reach p = V' at hV2 hV1 hV0 ⊢
    refine fun_spec_l24Visit_h (by simp) ?_
    simp -implicitDefEqProofs only [go_sem, evR, ints, rows, rat, rats, c_spec_l24Visit_h, srch, nodes, nd_at hx]
    refine ⟨by omega, by rw [nd_len]; omega, by rw [nd_len]; omega, fun h2 => ?_, fun h2 => ?_⟩
    · have h2 : x.p = 2 := by simpa using h2
      rw [hB2 h2, hV2 h2]
      refine SemC.loopR (σ := Nat) (fun k => St.of [(0, .own 1000000000), (1, .t (.i i)), (2, .t (.i own)), (3, .t (ints reach)), (4, .t (.i p)), (12, .t (.i (tS g pl i own reach p k))), (13, .t (.i k))] [(1000000000, srch g ot pl B)]) (fun k => k ≤ reach.length) (fun k => reach.length - k) 0 (Weak.of _ _ [some 1000000000] (by simp) (by simp) ?_ ?_) (by omega) fun k hk R hn hr he => ?_
      · simp -implicitDefEqProofs only [ints, rows, Nat.reduceBEq, wkR, Nat.reduceEqDiff, ↓reduceIte, wrR, show tS g pl i own reach p 0 = 0 by simp [tS, sumI]]
      · exact ⟨⟨_, rfl, .refl _⟩, rfl, trivial⟩
      · rcases Nat.lt_or_ge k reach.length with h9 | h9
        · simp -implicitDefEqProofs only [go_sem, evR, ints, rows, rat, rats, srch, nodes, decide_eq_true (show (k : Int) < (reach.length : Int) by omega)]
          refine CallW.ref (l24Deal_t g ot B pl own k) [1000000000] [] rfl Tryd.call91 (by simp) ?_ (by simp) ?_ (.inl rfl) ?_
          · simp -implicitDefEqProofs only [srR, Nat.reduceEqDiff, ↓reduceIte, ints, rows, intsO, rowsO]
          · simp -implicitDefEqProofs only [agR, Nat.reduceLeDiff, Nat.reduceSub, vaR, go_sem, ints, rows, rat, rats, ratsO, rtR, intsO, rowsO]
          simp -implicitDefEqProofs only [clR, Nat.reduceLeDiff, go_sem, evR, rat]
          obtain ⟨y, hy⟩ : ∃ y, reach[k]? = some y := ⟨_, List.getElem?_eq_getElem h9⟩
          have hyd : reach.getD k 0 = y := by rw [List.getD_eq_getElem?_getD, hy]; rfl
          obtain ⟨q1, q2⟩ := payP_abs hpay pl i own k
          obtain ⟨⟨m1, m2⟩, m3, m4⟩ := term_abs hr0 hcap (c := k) q1 q2
          have m5 := tS_abs (pl := pl) (i := i) (own := own) hpay hr0 hcap k
          have m6 := tS_succ g pl i own reach p k
          have m7 : (k : Int) * capV ≤ 6 * capV := Int.mul_le_mul_of_nonneg_right (by omega) (by decide)
          have hcv : capV = 4199040000000 := rfl
          have hPF := payP_F g pl i own k
          rw [hyd] at m1 m2 m3 m4 m6
          generalize hP : payP g pl i own k = P at q1 q2 m1 m2 m3 m4 m6 hPF
          refine CallW.pure (spec_payF (c := k) hg pl hi hown (by omega)) [] rfl Tryd.call98 ?_ (by first | trivial | simp [T.noSh, T.noShL, rat]) rfl ?_
          · simp -implicitDefEqProofs only [agR, Nat.reduceLeDiff, Nat.reduceSub, vaR, go_sem, ints, rows, rat, rats, ratsO, rtR, intsO, rowsO]
          simp -implicitDefEqProofs only [go_sem, evR, ints, rows, rat, rats, hy]
          have hw0 : pl = 1 → IntKind.i64.wrap (0 - payF g pl i own k) = P := fun h => by
            rw [if_neg (by omega)] at hPF
            rw [wrap64 (n := 0 - payF g pl i own k) (by omega) (by omega)]; omega
          have hw1 : pl ≠ 1 → payF g pl i own k = P := fun h => by
            rw [if_pos (by omega)] at hPF; exact hPF.symm
          refine ⟨fun h5 => ⟨by omega, by omega, by omega, ?_⟩, fun h5 => ⟨by omega, by omega, by omega, ?_⟩⟩
          · rw [hw0 (by simpa using h5)]
            refine CallV.pure (spec_l23Power_ok p (by omega)) [] rfl Tryd.call39 (fun e R' hR => ?_) (by first | trivial | simp [T.noSh, T.noShL, rat]) (fun _ => rfl) ?_
            · simp -implicitDefEqProofs only [agR, Nat.reduceLeDiff, Nat.reduceSub, vaR, go_sem, ints, rows, rat, rats, ratsO, rtR, intsO, rowsO]
            simp -implicitDefEqProofs only [go_sem, evR, ints, rows, rat, rats]
            refine hn _ (k + 1) (Weak.of _ _ [some 1000000000] (by simp) (by simp) ?_ ?_) (by omega) (by omega)
            · simp -implicitDefEqProofs only [ints, rows, Nat.reduceBEq, wkR, Nat.reduceEqDiff, ↓reduceIte, wrR, srch, nodes, next64 h9 (by omega), wrap64 (n := y * P) (by omega) (by omega), wrap64 (n := y * P * pw p) (by omega) (by omega), ← m6, wrap64 (n := tS g pl i own reach p (k + 1)) (by omega) (by omega)]
            · exact ⟨⟨_, rfl, .refl _⟩, rfl, trivial⟩
          · rw [hw1 (by simpa using h5)]
            refine CallV.pure (spec_l23Power_ok p (by omega)) [] rfl Tryd.call39 (fun e R' hR => ?_) (by first | trivial | simp [T.noSh, T.noShL, rat]) (fun _ => rfl) ?_
            · simp -implicitDefEqProofs only [agR, Nat.reduceLeDiff, Nat.reduceSub, vaR, go_sem, ints, rows, rat, rats, ratsO, rtR, intsO, rowsO]
            simp -implicitDefEqProofs only [go_sem, evR, ints, rows, rat, rats]
            refine hn _ (k + 1) (Weak.of _ _ [some 1000000000] (by simp) (by simp) ?_ ?_) (by omega) (by omega)
            · simp -implicitDefEqProofs only [ints, rows, Nat.reduceBEq, wkR, Nat.reduceEqDiff, ↓reduceIte, wrR, srch, nodes, next64 h9 (by omega), wrap64 (n := y * P) (by omega) (by omega), wrap64 (n := y * P * pw p) (by omega) (by omega), ← m6, wrap64 (n := tS g pl i own reach p (k + 1)) (by omega) (by omega)]
            · exact ⟨⟨_, rfl, .refl _⟩, rfl, trivial⟩
        · simp -implicitDefEqProofs only [go_sem, evR, ints, rows, rat, rats, srch, nodes, decide_eq_false (show ¬ (k : Int) < (reach.length : Int) by omega)]
          refine he _ _ ?_
          simp -implicitDefEqProofs only [go_sem, evR, ints, rows, rat, rats]
          rw [show k = reach.length by omega]
    have h2 : x.p ≠ 2 := by simpa using h2
    have hp2 : (g.nd.getD i nd0).p ≠ 2 := by rw [hxd]; exact h2
    obtain ⟨d1, d2⟩ := dep_child (f := f) hp2
    rw [hxd] at d2
    have hch := ndOK_child (t2 _ _ hx)
    refine ⟨fun h3 => ?_, fun h3 => ?_⟩
    · have h3 : x.p = pl := by simpa using h3
      generalize hF : (fun (B : List (List Int)) (c : Int) => bestB g ot pl own f c.toNat reach p B) = F at hB1
      generalize hvs : (x.ch.map fun c => bestV g ot pl own f c.toNat reach p) = vs at hB1 hV1
      have hvl : vs.length = x.ch.length := by rw [← hvs, List.length_map]
      rw [hB1 h2 h3, hV1 h2 h3]
      refine SemC.loopR (σ := Nat) (fun k => St.of [(0, .own 1000000000), (1, .t (.i i)), (2, .t (.i own)), (3, .t (ints reach)), (4, .t (.i p)), (11, .own 11), (17, .t (.i (argmax.go k vs))), (18, .t (.i (cntA vs k))), (19, .t (.i k))] [(11, .box [.i x.p, .i x.a, .i x.b, .i x.f, ints x.ch]), (1000000000, srch g ot pl ((x.ch.take k).foldl F B))]) (fun k => k ≤ x.ch.length) (fun k => x.ch.length - k) 0 (Weak.of _ _ [some 11, some 1000000000] (by simp) (by simp) ?_ ?_) (by omega) fun k hk R hn hr he => ?_
      · simp -implicitDefEqProofs only [ints, rows, Nat.reduceBEq, wkR, Nat.reduceEqDiff, ↓reduceIte, wrR, show cntA vs 0 = 0 from rfl, show argmax.go 0 vs = 0 from rfl]
      · exact ⟨⟨_, rfl, .refl _⟩, rfl, ⟨_, rfl, .refl _⟩, rfl, trivial⟩
      · rcases Nat.lt_or_ge k x.ch.length with h9 | h9
        · obtain ⟨c, hc⟩ : ∃ c, x.ch[k]? = some c := ⟨_, List.getElem?_eq_getElem h9⟩
          have hcm := List.mem_of_getElem? hc
          have hcb := hch c hcm
          have hcd := d2 c hcm
          have hrow : rows4 (sets g pl).length ((x.ch.take k).foldl F B) := by
            refine foldl_inv (rows4 (sets g pl).length) _ _ hBl fun B' c' _ hB' => ?_
            rw [← hF]; exact bestB_rows t2 f _ _ _ _ hB'
          have hcall := ih c.toNat reach p ((x.ch.take k).foldl F B) (by omega) (by omega) hrl hr0 (by omega) hp5 hcap hrow
          rw [show ((c.toNat : Nat) : Int) = c by omega, show bestB g ot pl own f c.toNat reach p ((x.ch.take k).foldl F B) = (x.ch.take (k + 1)).foldl F B by rw [foldl_snoc F x.ch B hc, ← hF]] at hcall
          have hvk : vs[k]? = some (bestV g ot pl own f c.toNat reach p) := by rw [← hvs, List.getElem?_map, hc]; rfl
          obtain ⟨g1, g2⟩ := go_take hvk
          generalize bestV g ot pl own f c.toNat reach p = n at hcall hvk g1 g2
          simp only [srch, nodes, rows, ints] at hcall
          simp -implicitDefEqProofs only [go_sem, evR, ints, rows, rat, rats, srch, nodes, hc, decide_eq_true (show (k : Int) < (x.ch.length : Int) by omega)]
          refine ⟨by omega, by omega, by omega, ?_⟩
          refine CallW.ref hcall [1000000000] [] rfl Tryd.call92 (by simp) ?_ (by simp) ?_ (.inl rfl) ?_
          · simp -implicitDefEqProofs only [srR, Nat.reduceEqDiff, ↓reduceIte, ints, rows, intsO, rowsO]
          · simp -implicitDefEqProofs only [agR, Nat.reduceLeDiff, Nat.reduceSub, vaR, go_sem, ints, rows, rat, rats, ratsO, rtR, intsO, rowsO]
          simp -implicitDefEqProofs only [clR, Nat.reduceLeDiff, go_sem, evR, rat]
          refine ⟨fun h0 => ⟨fun h1 => ?_, fun h1 => ?_⟩, fun h0 => ?_⟩
          · rw [if_pos (.inr h1)] at g1 g2
            refine hn _ (k + 1) (Weak.of _ _ [some 11, some 1000000000] (by simp) (by simp) ?_ ?_) (by omega) (by omega)
            · simp -implicitDefEqProofs only [ints, rows, Nat.reduceBEq, wkR, Nat.reduceEqDiff, ↓reduceIte, wrR, next64 h9 (by omega), g1, g2]
            · exact ⟨⟨_, rfl, .refl _⟩, rfl, ⟨_, rfl, .refl _⟩, rfl, trivial⟩
          · rw [if_neg (by rintro (h | h); (· rw [h] at h0; simp at h0); (· exact h1 h))] at g1 g2
            refine hn _ (k + 1) (Weak.of _ _ [some 11, some 1000000000] (by simp) (by simp) ?_ ?_) (by omega) (by omega)
            · simp -implicitDefEqProofs only [ints, rows, Nat.reduceBEq, wkR, Nat.reduceEqDiff, ↓reduceIte, wrR, next64 h9 (by omega), g1, g2]
            · exact ⟨⟨_, rfl, .refl _⟩, rfl, ⟨_, rfl, .refl _⟩, rfl, trivial⟩
          · rw [if_pos (.inl (by simpa using h0))] at g1 g2
            refine hn _ (k + 1) (Weak.of _ _ [some 11, some 1000000000] (by simp) (by simp) ?_ ?_) (by omega) (by omega)
            · simp -implicitDefEqProofs only [ints, rows, Nat.reduceBEq, wkR, Nat.reduceEqDiff, ↓reduceIte, wrR, next64 h9 (by omega), g1, g2]
            · exact ⟨⟨_, rfl, .refl _⟩, rfl, ⟨_, rfl, .refl _⟩, rfl, trivial⟩
        · simp -implicitDefEqProofs only [go_sem, evR, ints, rows, rat, rats, srch, nodes, decide_eq_false (show ¬ (k : Int) < (x.ch.length : Int) by omega)]
          refine he _ _ ?_
          simp -implicitDefEqProofs only [go_sem, evR, ints, rows, rat, rats, srch, nodes]
          have hke : k = x.ch.length := by omega
          have hcl1 : 1 ≤ x.ch.length := ((ndOK_fields (t2 _ _ hx)).2.2.2.2.1 h2).2
          have hgl := argmax_go_lt vs k (by omega)
          have hge : argmax.go k vs = argmax vs := by rw [argmax_eq, hvl, hke]
          rw [made_one, List.length_replicate]
          refine ⟨by omega, by omega, by omega, by omega, by omega, ?_⟩
          rw [show x.ch.take k = x.ch by rw [hke, List.take_length]]
          refine ⟨_, Weak.open 1000000000 6 500 rfl rfl rfl (by decide) rfl, ?_⟩
          simp -implicitDefEqProofs only [go_sem, evR, ints, rows, rat, rats, List.lookup_cons, beq_self_eq_true, Nat.reduceBEq]
          have hset := l23Set_t (pl := pl) hg hi (by rw [hxd]; exact h3) hown
          have hrowA : rows4 (sets g pl).length (x.ch.foldl F B) := by
            refine foldl_inv (rows4 (sets g pl).length) _ _ hBl fun B' c' _ hB' => ?_
            rw [← hF]; exact bestB_rows t2 f _ _ _ _ hB'
          have hslt := setI_lt (pl := pl) hi hown (by rw [hxd]; exact h3)
          have hrl1 := hrowA.1
          refine CallV.pure hset [] rfl Tryd.call99 (fun e R' hR => ?_) (by first | trivial | simp [T.noSh, T.noShL, rat]) (fun _ => rfl) ?_
          · simp -implicitDefEqProofs only [agR, Nat.reduceLeDiff, Nat.reduceSub, vaR, go_sem, ints, rows, rat, rats, ratsO, rtR, intsO, rowsO]
          simp -implicitDefEqProofs only [go_sem, evR, ints, rows, rat, rats, rowsO]
          refine ⟨by omega, by omega, by omega, ?_⟩
          refine ⟨_, Weak.join2 Tryd.prog tyOne (sl 120) (sl 121) rfl rfl rfl rfl (by decide) (by simp), ?_⟩
          simp -implicitDefEqProofs only [go_sem, evR, ints, rows, rat, rats]
          refine ⟨?_, ?_⟩
          · rw [List.map_set, intsO, List.map_set, List.map_replicate, hge]
          · rw [cntA, if_neg (by omega), hge]
    · have h3 : x.p ≠ pl := by simpa using h3
      have hpo : x.p = 1 - pl := by
        obtain ⟨⟨q1, q2⟩, _⟩ := ndOK_fields (t2 _ _ hx)
        omega
      have hpd : (g.nd.getD i nd0).p = 1 - pl := by rw [hxd]; exact hpo
      generalize hF : (fun (B : List (List Int)) (k : Nat) => bestB g ot pl own f (x.ch.getD k 0).toNat (nextR g ot pl i reach k) (p - 1) B) = F at hB0
      generalize hG : (fun k => bestV g ot pl own f (x.ch.getD k 0).toNat (nextR g ot pl i reach k) (p - 1)) = G at hV0
      rw [hB0 h2 h3, hV0 h2 h3]
      refine SemC.loopR (σ := Nat) (fun k => St.of [(0, .own 1000000000), (1, .t (.i i)), (2, .t (.i own)), (3, .t (ints reach)), (4, .t (.i p)), (11, .own 11), (22, .t (.i (sumI ((List.range k).map G)))), (23, .t (.i k))] [(11, .box [.i x.p, .i x.a, .i x.b, .i x.f, ints x.ch]), (1000000000, srch g ot pl ((List.range k).foldl F B))]) (fun k => k ≤ x.ch.length) (fun k => x.ch.length - k) 0 (Weak.of _ _ [some 11, some 1000000000] (by simp) (by simp) ?_ ?_) (by omega) fun k hk R hn hr he => ?_
      · simp -implicitDefEqProofs only [ints, rows, Nat.reduceBEq, wkR, Nat.reduceEqDiff, ↓reduceIte, wrR, List.range_zero, List.map_nil, show sumI [] = 0 from rfl]
      · exact ⟨⟨_, rfl, .refl _⟩, rfl, ⟨_, rfl, .refl _⟩, rfl, trivial⟩
      · rcases Nat.lt_or_ge k x.ch.length with h9 | h9
        · obtain ⟨c, hc⟩ : ∃ c, x.ch[k]? = some c := ⟨_, List.getElem?_eq_getElem h9⟩
          simp -implicitDefEqProofs only [go_sem, evR, ints, rows, rat, rats, srch, nodes, hc, decide_eq_true (show (k : Int) < (x.ch.length : Int) by omega)]
          have hnl : (nextR g ot pl i reach k).length = reach.length := nextR_length _ _ _ _ _ _
          refine SemC.loopR (σ := Nat) (fun b => St.of [(0, .own 1000000000), (1, .t (.i i)), (2, .t (.i own)), (3, .t (ints reach)), (4, .t (.i p)), (11, .own 11), (22, .t (.i (sumI ((List.range k).map G)))), (23, .t (.i k)), (24, .own 77), (25, .t (.i b))] [(11, .box [.i x.p, .i x.a, .i x.b, .i x.f, ints x.ch]), (77, .arr 1 (((nextR g ot pl i reach k).take b).map T.i)), (1000000000, srch g ot pl ((List.range k).foldl F B))]) (fun b => b ≤ reach.length) (fun b => reach.length - b) 0 (Weak.of _ _ [some 11, some 143, some 1000000000] (by simp) (by simp) ?_ ?_) (by omega) fun b hb R2 hn2 hr2 he2 => ?_
          · simp -implicitDefEqProofs only [ints, rows, Nat.reduceBEq, wkR, Nat.reduceEqDiff, ↓reduceIte, wrR, List.take_zero, srch, nodes]
          · exact ⟨⟨_, rfl, .refl _⟩, rfl, ⟨_, rfl, .refl _⟩, rfl, ⟨_, rfl, .refl _⟩, rfl, trivial⟩
          · rcases Nat.lt_or_ge b reach.length with h8 | h8
            · obtain ⟨y, hy⟩ : ∃ y, reach[b]? = some y := ⟨_, List.getElem?_eq_getElem h8⟩
              simp -implicitDefEqProofs only [go_sem, evR, ints, rows, rat, rats, srch, nodes, hy, decide_eq_true (show (b : Int) < (reach.length : Int) by omega)]
              obtain ⟨o1, o2, o3⟩ := hot i b hi (by omega) hpd
              obtain ⟨r, hr1⟩ : ∃ r, ot[setI g (1 - pl) i b]? = some r := by
                cases h : ot[setI g (1 - pl) i b]? with
                | some r => exact ⟨r, rfl⟩
                | none =>
                  rw [partsOf, List.getD_eq_getElem?_getD, h, hxd] at o1
                  simp at o1
                  omega
              have hrp : partsOf g ot (1 - pl) i b = r := by rw [partsOf, List.getD_eq_getElem?_getD, hr1]; rfl
              rw [hrp] at o1 o2
              rw [hxd] at o1
              obtain ⟨y2, hy2⟩ : ∃ y2, r[k]? = some y2 := ⟨_, List.getElem?_eq_getElem (by omega)⟩
              have hy2b := o2 y2 (List.mem_of_getElem? hy2)
              refine ⟨by omega, by omega, by omega, ?_⟩
              rw [wrap64 (n := 1 - pl) (by omega) (by omega)]
              refine CallV.pure (l23Set_t (pl := 1 - pl) (c := b) hg hi hpd (by omega)) [] rfl Tryd.call99 (fun e R' hR => ?_) (by first | trivial | simp [T.noSh, T.noShL, rat]) (fun _ => rfl) ?_
              · simp -implicitDefEqProofs only [agR, Nat.reduceLeDiff, Nat.reduceSub, vaR, go_sem, ints, rows, rat, rats, ratsO, rtR, intsO, rowsO]
              simp -implicitDefEqProofs only [go_sem, evR, ints, rows, rat, rats, hr1, hy2]
              have hslt := (List.getElem?_eq_some_iff.1 hr1).1
              have hyb : 0 ≤ y ∧ y ≤ 41990400000 := by
                have h1 := reach_pos hr0 b
                rw [List.getD_eq_getElem?_getD, hy] at h1
                have h2 := pw_pos p
                have h3 := sumI_nonneg hr0
                have h4 := Int.mul_le_mul_of_nonneg_left (show (1 : Int) ≤ pw p by omega) h3
                unfold capOK at hcap
                simp only [Option.getD_some] at h1
                omega
              have hm1 := Int.mul_nonneg hyb.1 hy2b.1
              have hm2 : y * y2 ≤ 41990400000 * 60 := Int.mul_le_mul hyb.2 hy2b.2 hy2b.1 (by decide)
              have hnx : (nextR g ot pl i reach k)[b]? = some (y * y2) := by
                rw [nextR, List.getElem?_map, List.getElem?_range (by omega), Option.map_some, hrp, List.getD_eq_getElem?_getD, hy, List.getD_eq_getElem?_getD, hy2]; rfl
              refine ⟨by omega, by omega, by omega, by omega, by omega, by omega, by rw [List.length_take]; omega, hn2 _ (b + 1) (Weak.of _ _ [some 11, some 179, some 1000000000] (by simp) (by simp) ?_ ?_) (by omega) (by omega)⟩
              · simp -implicitDefEqProofs only [ints, rows, Nat.reduceBEq, wkR, Nat.reduceEqDiff, ↓reduceIte, wrR, srch, nodes, next64 h8 (by omega)]
              · refine ⟨⟨_, rfl, .refl _⟩, rfl, ⟨_, rfl, ?_⟩, rfl, ⟨_, rfl, .refl _⟩, rfl, trivial⟩
                rw [take_snoc hnx, List.map_append, wrap64 (n := y * y2) (by omega) (by omega)]; exact .refl _
            · simp -implicitDefEqProofs only [go_sem, evR, ints, rows, rat, rats, srch, nodes, hc, decide_eq_false (show ¬ (b : Int) < (reach.length : Int) by omega)]
              refine he2 _ _ ?_
              simp -implicitDefEqProofs only [go_sem, evR, ints, rows, rat, rats, srch, nodes, hc]
              have hbl : b = reach.length := by omega
              have htk : (nextR g ot pl i reach k).take b = nextR g ot pl i reach k := List.take_of_length_le (by omega)
              rw [htk]
              refine ⟨_, Weak.trans (Weak.share 77 rfl) (Weak.of [(0, .own 1000000000), (1, .t (.i i)), (2, .t (.i own)), (3, .t (ints reach)), (4, .t (.i p)), (11, .own 11), (22, .t (.i (sumI ((List.range k).map G)))), (23, .t (.i k)), (24, .t (ints (nextR g ot pl i reach k)))] [(11, .box [.i x.p, .i x.a, .i x.b, .i x.f, ints x.ch]), (1000000000, srch g ot pl ((List.range k).foldl F B))] [some 11, some 1000000000] (by simp) (by simp) ?_ ?_), ?_⟩
              · simp -implicitDefEqProofs only [ints, rows, Nat.reduceBEq, wkR, Nat.reduceEqDiff, ↓reduceIte, wrR, shareA, srch, nodes, T.toSh, T.toShL_eq_map, List.map_map]
                exact .inr (.inl rfl)
              · exact ⟨⟨_, rfl, .refl _⟩, rfl, ⟨_, rfl, .refl _⟩, rfl, trivial⟩
              · simp -implicitDefEqProofs only [go_sem, evR, ints, rows, rat, rats, srch, nodes, hc]
                refine ⟨by omega, by omega, by omega, ?_⟩
                have hp1 : 1 ≤ p := by omega
                obtain ⟨p', rfl⟩ : ∃ p', p = p' + 1 := ⟨p - 1, by omega⟩
                have hcm := List.mem_of_getElem? hc
                have hcb := hch c hcm
                have hcd := d2 c hcm
                have hcd0 : x.ch.getD k 0 = c := by rw [List.getD_eq_getElem?_getD, hc]; rfl
                have hch1 : ∀ j, j < x.ch.length → -capV ≤ G j ∧ G j ≤ capV := fun j hj => by
                  have hmj := getD_mem (0 : Int) hj
                  have hjb := hch _ hmj
                  have hjd := d2 _ hmj
                  rw [← hG]
                  exact bestV_cap t2 hpl hot (by omega) (by rw [nextR_length]; exact hrl) (nextR_nonneg hot hi hrl hpd hr0 j) (by omega) (capOK_next hot hi hrl hpd hr0 hcap (by rw [hxd]; exact hj))
                have hs1 := sumI_range_abs (G := G) (c := capV) (n := k) fun j hj => hch1 j (by omega)
                have hs2 := hch1 k h9
                have hcv : capV = 4199040000000 := rfl
                have hk4 : (k : Int) * capV ≤ 4 * capV := Int.mul_le_mul_of_nonneg_right (by omega) (by decide)
                have hrow : rows4 (sets g pl).length ((List.range k).foldl F B) := by
                  refine foldl_inv (rows4 (sets g pl).length) _ _ hBl fun B' c' _ hB' => ?_
                  rw [← hF]; exact bestB_rows t2 f _ _ _ _ hB'
                have hcall := ih c.toNat (nextR g ot pl i reach k) p' ((List.range k).foldl F B) (by omega) (by omega) (by omega) (nextR_nonneg hot hi hrl hpd hr0 k) (by omega) (by omega) (capOK_next hot hi hrl hpd hr0 hcap (by rw [hxd]; omega)) hrow
                rw [show ((c.toNat : Nat) : Int) = c by omega, show bestB g ot pl own f c.toNat (nextR g ot pl i reach k) p' ((List.range k).foldl F B) = (List.range (k + 1)).foldl F B by rw [List.range_succ, List.foldl_append, ← hF, List.foldl_cons, List.foldl_nil]; simp only [hcd0, Nat.add_sub_cancel], show bestV g ot pl own f c.toNat (nextR g ot pl i reach k) p' = G k by rw [← hG]; simp only [hcd0, Nat.add_sub_cancel]] at hcall
                have hsg : sumI ((List.range (k + 1)).map G) = sumI ((List.range k).map G) + G k := by rw [List.range_succ, List.map_append, List.map_cons, List.map_nil, sumI_snoc]
                simp only [srch, nodes, rows, ints] at hcall
                rw [wrap64 (n := ((p' + 1 : Nat) : Int) - 1) (by omega) (by omega), show ((p' + 1 : Nat) : Int) - 1 = (p' : Int) by omega]
                refine CallW.ref hcall [1000000000] [] rfl Tryd.call92 (by simp) ?_ (by simp) ?_ (.inl rfl) ?_
                · simp -implicitDefEqProofs only [srR, Nat.reduceEqDiff, ↓reduceIte, ints, rows, intsO, rowsO]
                · simp -implicitDefEqProofs only [agR, Nat.reduceLeDiff, Nat.reduceSub, vaR, go_sem, ints, rows, rat, rats, ratsO, rtR, intsO, rowsO]
                simp -implicitDefEqProofs only [clR, Nat.reduceLeDiff, go_sem, evR, rat]
                refine hn _ (k + 1) (Weak.of _ _ [some 11, some 1000000000] (by simp) (by simp) ?_ ?_) (by omega) (by omega)
                · simp -implicitDefEqProofs only [ints, rows, Nat.reduceBEq, wkR, Nat.reduceEqDiff, ↓reduceIte, wrR, srch, nodes, next64 h9 (by omega), hsg, wrap64 (n := sumI ((List.range k).map G) + G k) (by omega) (by omega)]
                · refine ⟨⟨_, rfl, .refl _⟩, rfl, ⟨_, rfl, ?_⟩, rfl, trivial⟩
                  rw [List.range_succ]; exact .refl _
        · simp -implicitDefEqProofs only [go_sem, evR, ints, rows, rat, rats, srch, nodes, decide_eq_false (show ¬ (k : Int) < (x.ch.length : Int) by omega)]
          refine he _ _ ?_
          simp -implicitDefEqProofs only [go_sem, evR, ints, rows, rat, rats]
          rw [show k = x.ch.length by omega]
          exact ⟨rfl, rfl⟩
end
end Go.Ab

/- Games as data: no strategy does better than the best; bounds of the number of a game. -/
set_option linter.unusedSimpArgs false
set_option linter.unusedVariables false
namespace Go.Ab

theorem dpt_eq (g : Gm) : ((dpt g : Nat) : Int) = dep g.nd g.nd.length 0 := by
  have := (dep_nonneg (l := g.nd) g.nd.length 0).1
  unfold dpt; omega
end Go.Ab

/- Games as data: the parts of a tree below its nodes; what a best response writes. -/
set_option linter.unusedSimpArgs false
set_option linter.unusedVariables false
namespace Go.Ab

def isKid (l : List Nd) (i j : Nat) : Prop := i < l.length ∧ (l.getD i nd0).p ≠ 2 ∧ (j : Int) ∈ (l.getD i nd0).ch
inductive Rch (l : List Nd) : Nat → Nat → Prop
  | refl (i : Nat) : Rch l i i
  | step {i j k : Nat} : Rch l i j → isKid l j k → Rch l i k
end Go.Ab
