/- Contracts: increasing numbers, depths of trees. -/
import Derived.Test.YtkmmkgpnlmdcfaaQ3
set_option linter.unusedSimpArgs false
set_option linter.unusedVariables false
namespace Go.Ab
open Go.Proofs

theorem incr_iff {l : List Int} : incr l = true ↔ ∀ i, i + 1 < l.length → l.getD i 0 < l.getD (i + 1) 0 := by
  induction l with
  | nil => simp [incr]
  | cons a l ih =>
    cases l with
    | nil => simp [incr]
    | cons b l =>
      rw [incr, Bool.and_eq_true, decide_eq_true_eq, ih]
      constructor
      · rintro ⟨h1, h2⟩ i hi
        cases i with
        | zero => simpa using h1
        | succ i => simpa using h2 i (by simpa using hi)
      · intro h
        refine ⟨by simpa using h 0 (by simp), fun i hi => ?_⟩
        simpa using h (i + 1) (by simpa using hi)
theorem getD_of {l : List Int} {i : Nat} {x : Int} (h : l[i]? = some x) : l.getD i 0 = x := by rw [List.getD_eq_getElem?_getD, h]; rfl
theorem nd_of {l : List Nd} {i : Nat} {x : Nd} (h : l[i]? = some x) : l.getD i nd0 = x := by rw [List.getD_eq_getElem?_getD, h]; rfl
theorem pred64 {i : Nat} (h : 1 ≤ i) (hi : i ≤ 1000000000000) : IntKind.i64.wrap ((i : Int) - 1) = ((i - 1 : Nat) : Int) := by rw [wrap64 (by omega) (by omega)]; omega

theorem impl_increasing_ok (l : List Int) (hl : l.length ≤ 1000000000000) : Pure Try.prog 212 [ints l] (.b (incr l)) := by
  refine fun_impl_increasing (by simp) ?_
  simp -implicitDefEqProofs only [go_sem, evR, ints, rows, rat, rats, c_impl_increasing]
  refine SemC.loopR (σ := Nat) (fun i => St.of [(0, .t (ints l)), (3, .t (.i i))] []) (fun i => 1 ≤ i ∧ ∀ j, j + 1 < i → j + 1 < l.length → l.getD j 0 < l.getD (j + 1) 0) (fun i => l.length - i) 1 (Weak.of _ [] [] (by simp) (by simp) ?_ trivial) ⟨by omega, fun j hj => by omega⟩ fun i hI R hn hr he => ?_
  · simp -implicitDefEqProofs only [ints, rows, wkR, Nat.reduceEqDiff, ↓reduceIte]
  · simp -implicitDefEqProofs only [go_sem, evR, ints, rows, rat, rats]
    refine ⟨fun h => ?_, fun h => he _ _ ?_⟩
    · have hil : i < l.length := by omega
      rw [pred64 hI.1 (by omega)]
      obtain ⟨x, hx⟩ : ∃ x, l[i - 1]? = some x := ⟨_, List.getElem?_eq_getElem (by omega)⟩
      obtain ⟨y, hy⟩ : ∃ y, l[i]? = some y := ⟨_, List.getElem?_eq_getElem (by omega)⟩
      simp -implicitDefEqProofs only [go_sem, evR, ints, rows, rat, rats, hx, hy, toNat_cast]
      refine ⟨by omega, by omega, by omega, by omega, by omega, by omega, fun h1 => hr _ ?_, fun h1 => hn _ (i + 1) (Weak.of _ [] [] (by simp) (by simp) ?_ trivial) ⟨by omega, fun j hj hjl => ?_⟩ (by omega)⟩
      · simp -implicitDefEqProofs only [go_sem, evR, ints, rows, rat, rats]
        have : incr l = false := by
          cases hc : incr l with
          | false => rfl
          | true =>
            have := incr_iff.1 hc (i - 1) (by omega)
            rw [show i - 1 + 1 = i by omega, getD_of hx, getD_of hy] at this
            omega
        rw [this]
      · simp -implicitDefEqProofs only [ints, rows, wkR, Nat.reduceEqDiff, ↓reduceIte, next64 hil hl]
      · by_cases hji : j + 1 = i
        · have e : j = i - 1 := by omega
          rw [hji, e, getD_of hx, getD_of hy]; omega
        · exact hI.2 j (by omega) hjl
    · simp -implicitDefEqProofs only [go_sem, evR, ints, rows, rat, rats]
      have : incr l = true := incr_iff.2 fun j hj => hI.2 j (by omega) hj
      rw [this]

theorem spec_l01Rises_ok (l : List Int) (n : Nat) (hl : l.length ≤ 1000000000000) (hn0 : n ≤ 1000000000000) : Pure Try.prog 228 [ints l, .i n] (.b (rises n l)) := by
  have hw : IntKind.i64.wrap ((n : Int) - 1) = (n : Int) - 1 := wrap64 (by omega) (by omega)
  refine fun_spec_l01Rises (by simp) ?_
  simp -implicitDefEqProofs only [go_sem, evR, ints, rows, rat, rats, c_spec_l01Rises]
  refine SemC.loopR (σ := Nat) (fun i => St.of [(0, .t (ints l)), (1, .t (.i n)), (5, .t (.i i))] []) (fun i => i ≤ l.length ∧ (∀ c ∈ l.take i, 0 ≤ c ∧ c ≤ (n : Int) - 1) ∧ ∀ j, j + 1 < i → j + 1 < l.length → l.getD j 0 < l.getD (j + 1) 0) (fun i => l.length - i) 0 (Weak.of _ [] [] (by simp) (by simp) ?_ trivial) ⟨by simp, by simp, fun j hj => by omega⟩ fun i hI R hn hr he => ?_
  · simp -implicitDefEqProofs only [ints, rows, wkR, Nat.reduceEqDiff, ↓reduceIte]
  · obtain ⟨hi, h2, h3⟩ := hI
    simp -implicitDefEqProofs only [go_sem, evR, ints, rows, rat, rats, hw]
    refine ⟨fun h => ?_, fun h => he _ _ ?_⟩
    · have hil : i < l.length := by omega
      obtain ⟨y, hy⟩ : ∃ y, l[i]? = some y := ⟨_, List.getElem?_eq_getElem hil⟩
      refine ⟨by omega, by omega, by omega, fun y' hy' => ?_⟩
      rw [hy] at hy'; cases hy'
      refine CallV.pure (spec_l01In_ok y 0 ((n : Int) - 1)) [] rfl Try.call148 (fun e R' hR => ?_) (by first | trivial | simp [T.noSh, T.noShL, rat]) (fun _ => rfl) ?_
      · simp -implicitDefEqProofs only [agR, Nat.reduceLeDiff, Nat.reduceSub, vaR, go_sem, ints, rows, rat, rats, ratsO, rtR, intsO, rowsO]
      simp -implicitDefEqProofs only [go_sem, evR, ints, rows, rat, rats]
      have next : 0 ≤ y ∧ y ≤ (n : Int) - 1 → ∀ c ∈ l.take (i + 1), 0 ≤ c ∧ c ≤ (n : Int) - 1 := fun hy1 c hc => by
        rw [List.take_add_one, hy] at hc
        rcases List.mem_append.1 hc with hc | hc
        · exact h2 c hc
        · simp at hc; rw [hc]; exact hy1
      refine ⟨fun h1 => ⟨fun h4 => ?_, fun h4 => ?_⟩, fun h1 => hr _ ?_⟩
      · have h1 : 0 ≤ y ∧ y ≤ (n : Int) - 1 := by simpa using h1
        have hi1 : 1 ≤ i := by omega
        obtain ⟨x, hx⟩ : ∃ x, l[i - 1]? = some x := ⟨_, List.getElem?_eq_getElem (by omega)⟩
        rw [pred64 hi1 (by omega)]
        simp -implicitDefEqProofs only [go_sem, evR, ints, rows, rat, rats, hx, hy, toNat_cast]
        refine ⟨by omega, by omega, by omega, by omega, by omega, by omega, fun h5 => hr _ ?_, fun h5 => hn _ (i + 1) (Weak.of _ [] [] (by simp) (by simp) ?_ trivial) ⟨by omega, next h1, fun j hj hjl => ?_⟩ (by omega)⟩
        · simp -implicitDefEqProofs only [go_sem, evR, ints, rows, rat, rats]
          have : rises n l = false := by
            cases hc : rises n l with
            | false => rfl
            | true =>
              rw [rises, Bool.and_eq_true] at hc
              have := incr_iff.1 hc.2 (i - 1) (by omega)
              rw [show i - 1 + 1 = i by omega, getD_of hx, getD_of hy] at this
              omega
          rw [this]
        · simp -implicitDefEqProofs only [ints, rows, wkR, Nat.reduceEqDiff, ↓reduceIte, next64 hil hl]
        · by_cases hji : j + 1 = i
          · have e : j = i - 1 := by omega
            rw [hji, e, getD_of hx, getD_of hy]; omega
          · exact h3 j (by omega) hjl
      · have h1 : 0 ≤ y ∧ y ≤ (n : Int) - 1 := by simpa using h1
        refine hn _ (i + 1) (Weak.of _ [] [] (by simp) (by simp) ?_ trivial) ⟨by omega, next h1, fun j hj hjl => h3 j (by omega) hjl⟩ (by omega)
        simp -implicitDefEqProofs only [ints, rows, wkR, Nat.reduceEqDiff, ↓reduceIte, next64 hil hl]
      · simp -implicitDefEqProofs only [go_sem, evR, ints, rows, rat, rats]
        have h1 : ¬ (0 ≤ y ∧ y ≤ (n : Int) - 1) := by
          have h1 : y < 0 ∨ (n : Int) - 1 < y := by simpa using h1
          omega
        have : rises n l = false := by
          cases hc : rises n l with
          | false => rfl
          | true =>
            rw [rises, Bool.and_eq_true, List.all_eq_true] at hc
            have := hc.1 y (List.mem_of_getElem? hy)
            exact absurd (by simpa using this) h1
        rw [this]
    · simp -implicitDefEqProofs only [go_sem, evR, ints, rows, rat, rats]
      have : rises n l = true := by
        rw [rises, Bool.and_eq_true, List.all_eq_true]
        refine ⟨fun c hc => by have := h2 c (by rw [List.take_of_length_le (by omega)]; exact hc); simpa using this, incr_iff.2 fun j hj => h3 j (by omega) hj⟩
      rw [this]
end Go.Ab

/- Contracts: impl.IsMatrix. -/
set_option linter.unusedSimpArgs false
set_option linter.unusedVariables false
namespace Go.Ab
open Go.Proofs

end Go.Ab

/- Contracts: impl.IsMatrix. -/
set_option linter.unusedSimpArgs false
set_option linter.unusedVariables false
namespace Go.Ab
open Go.Proofs

end Go.Ab

/- The law FnExactIsMatrix, as a contract. -/
set_option linter.unusedSimpArgs false
set_option linter.unusedVariables false
namespace Go.Ab
open Go.Proofs

theorem budgetRows_ok : ∀ {m : List (List Int)} {left : Int}, 0 ≤ left → 0 ≤ budgetRows m left → ∀ r ∈ m, (r.length : Int) ≤ left
  | [], left, _, _, r, hr => by simp at hr
  | x :: m, left, h0, h, r, hr => by
    simp only [budgetRows] at h
    split at h
    · omega
    · rename_i h1
      rcases List.mem_cons.1 hr with rfl | hr
      · omega
      · have := budgetRows_ok (by omega) h r hr; omega
theorem budgetMat_ok {m : List (List Int)} {left : Int} (h0 : 0 ≤ left) (h : 0 ≤ budgetMat m left) : (m.length : Int) ≤ left ∧ ∀ r ∈ m, (r.length : Int) ≤ left := by
  simp only [budgetMat] at h
  split at h
  · omega
  · exact ⟨by omega, fun r hr => by have := budgetRows_ok (by omega) h r hr; omega⟩

end Go.Ab

/- Contracts: copies of rows, least and greatest numbers, marks. -/
set_option linter.unusedSimpArgs false
set_option linter.unusedVariables false
namespace Go.Ab
open Go.Proofs

theorem spec_l01Own_ok (l : List Int) (hl : l.length ≤ 1000000000000) : Fun Try.prog 167 [] [.t (ints l)] fun o r => o = [] ∧ r = intsO l := by
  refine fun_spec_l01Own (by simp) ?_
  simp -implicitDefEqProofs only [c_spec_l01Own, ints, go_sem]
  exact ⟨by omega, rfl⟩

def minL (l : List Int) : Int := l.tail.foldl min (l.headD 0)
def maxL (l : List Int) : Int := l.tail.foldl max (l.headD 0)
theorem minL_snoc {l : List Int} (h : l ≠ []) (x : Int) : minL (l ++ [x]) = min (minL l) x := by
  cases l with
  | nil => exact absurd rfl h
  | cons a l => simp [minL, List.foldl_append]
theorem maxL_snoc {l : List Int} (h : l ≠ []) (x : Int) : maxL (l ++ [x]) = max (maxL l) x := by
  cases l with
  | nil => exact absurd rfl h
  | cons a l => simp [maxL, List.foldl_append]
theorem take_snoc {α : Type} {l : List α} {i : Nat} {x : α} (h : l[i]? = some x) : l.take (i + 1) = l.take i ++ [x] := by
  rw [List.take_add_one, h]; rfl

theorem slices_Min_ok (l : List Int) (h0 : l ≠ []) (hl : l.length ≤ 1000000000000) : Pure Try.prog 105 [ints l] (.i (minL l)) := by
  have hpos : 0 < l.length := List.length_pos_iff.2 h0
  refine fun_slices_Min___int64_int64_ (by simp) ?_
  simp -implicitDefEqProofs only [c_slices_Min___int64_int64_, go_sem, evR, ints, rows, rat, rats]
  refine ⟨fun h => absurd h (by omega), fun _ => ⟨by omega, by omega, fun x hx => ?_⟩⟩
  refine SemC.loopR (σ := Nat) (fun i => St.of [(0, .t (ints l)), (3, .t (.i (minL (l.take i)))), (4, .t (.i i))] []) (fun i => 1 ≤ i ∧ i ≤ l.length) (fun i => l.length - i) 1 (Weak.of _ [] [] (by simp) (by simp) ?_ trivial) ⟨by simp, hpos⟩ fun i hI R hn hr he => ?_
  · simp -implicitDefEqProofs only [ints, wkR, Nat.reduceEqDiff, ↓reduceIte]
    cases l with
    | nil => simp at hx
    | cons a l => simp at hx; simp [minL, hx]
  · simp -implicitDefEqProofs only [go_sem, evR, ints, rows, rat, rats]
    refine ⟨fun h => ⟨by omega, by omega, by omega, fun x hx => hn _ (i + 1) (Weak.of _ [] [] (by simp) (by simp) ?_ trivial) (by omega) (by omega)⟩, fun h => he _ _ ?_⟩
    · have hne : l.take i ≠ [] := by intro h'; have := congrArg List.length h'; rw [List.length_take, List.length_nil] at this; omega
      simp -implicitDefEqProofs only [ints, wkR, Nat.reduceEqDiff, ↓reduceIte, next64 (by omega : i < l.length) hl, take_snoc hx, minL_snoc hne]
    · simp -implicitDefEqProofs only [go_sem]
      rw [List.take_of_length_le (by omega)]

theorem slices_Max_ok (l : List Int) (h0 : l ≠ []) (hl : l.length ≤ 1000000000000) : Pure Try.prog 106 [ints l] (.i (maxL l)) := by
  have hpos : 0 < l.length := List.length_pos_iff.2 h0
  refine fun_slices_Max___int64_int64_ (by simp) ?_
  simp -implicitDefEqProofs only [c_slices_Max___int64_int64_, go_sem, evR, ints, rows, rat, rats]
  refine ⟨fun h => absurd h (by omega), fun _ => ⟨by omega, by omega, fun x hx => ?_⟩⟩
  refine SemC.loopR (σ := Nat) (fun i => St.of [(0, .t (ints l)), (3, .t (.i (maxL (l.take i)))), (4, .t (.i i))] []) (fun i => 1 ≤ i ∧ i ≤ l.length) (fun i => l.length - i) 1 (Weak.of _ [] [] (by simp) (by simp) ?_ trivial) ⟨by simp, hpos⟩ fun i hI R hn hr he => ?_
  · simp -implicitDefEqProofs only [ints, wkR, Nat.reduceEqDiff, ↓reduceIte]
    cases l with
    | nil => simp at hx
    | cons a l => simp at hx; simp [maxL, hx]
  · simp -implicitDefEqProofs only [go_sem, evR, ints, rows, rat, rats]
    refine ⟨fun h => ⟨by omega, by omega, by omega, fun x hx => hn _ (i + 1) (Weak.of _ [] [] (by simp) (by simp) ?_ trivial) (by omega) (by omega)⟩, fun h => he _ _ ?_⟩
    · have hne : l.take i ≠ [] := by intro h'; have := congrArg List.length h'; rw [List.length_take, List.length_nil] at this; omega
      simp -implicitDefEqProofs only [ints, wkR, Nat.reduceEqDiff, ↓reduceIte, next64 (by omega : i < l.length) hl, take_snoc hx, maxL_snoc hne]
    · simp -implicitDefEqProofs only [go_sem]
      rw [List.take_of_length_le (by omega)]


def marks : Nat → Int → List Int
  | 0, _ => []
  | n + 1, k => k :: marks n (k + 1)
def held : List Int → Int → Int
  | [], k => k
  | x :: l, k => if x = k then held l (k + 1) else -1
end Go.Ab

/- Contracts: depths of trees. -/
set_option linter.unusedSimpArgs false
set_option linter.unusedVariables false
namespace Go.Ab
open Go.Proofs

def depI (l : List Nd) (f : Nat) (cs : List Int) : Int := cs.foldl (fun d c => max d (dep l f c.toNat)) 0
theorem depI_snoc (l : List Nd) (f : Nat) (cs : List Int) (c : Int) : depI l f (cs ++ [c]) = max (depI l f cs) (dep l f c.toNat) := by simp [depI, List.foldl_append]
theorem depI_bound (l : List Nd) (f : Nat) : ∀ cs : List Int, 0 ≤ depI l f cs ∧ depI l f cs ≤ f := by
  intro cs
  have key : ∀ (cs : List Int) (d : Int), 0 ≤ d ∧ d ≤ f → 0 ≤ cs.foldl (fun d c => max d (dep l f c.toNat)) d ∧ cs.foldl (fun d c => max d (dep l f c.toNat)) d ≤ f := by
    intro cs
    induction cs with
    | nil => intro d h; exact h
    | cons c cs ih =>
      intro d h
      rw [List.foldl_cons]
      have := dep_nonneg (l := l) f c.toNat
      exact ih _ (by omega)
  exact key cs 0 (by omega)
theorem dep_succ {l : List Nd} {f i : Nat} {x : Nd} (hx : l[i]? = some x) : dep l (f + 1) i = if x.p = 2 then 0 else depI l f x.ch + 1 := by
  have := nd_of hx
  unfold nd0 at this
  rw [dep, this]; rfl

theorem impl_depthFrom_ok {l : List Nd} (hl : ndsOK l) (hln : l.length ≤ 1000000) : ∀ (f i : Nat), l.length ≤ i + f → i < l.length → f ≤ 1000000 → Pure Try.prog 164 [treeT l, .i i] (.i (dep l f i)) := by
  intro f
  induction f with
  | zero => intro i h1 h2; omega
  | succ f ih =>
    intro i h1 h2 hf
    obtain ⟨x, hx⟩ : ∃ x, l[i]? = some x := ⟨_, List.getElem?_eq_getElem h2⟩
    rw [dep_succ hx]
    refine fun_impl_depthFrom (by simp) ?_
    simp -implicitDefEqProofs only [go_sem, evR, ints, rows, rat, rats, c_impl_depthFrom, treeT, nodes, nd_at hx]
    refine ⟨by omega, by rw [nd_len]; omega, by rw [nd_len]; omega, ?_⟩
    refine ⟨fun h => ?_, fun h => ?_⟩
    · rw [if_pos (by simpa using h)]
    · have hp : x.p ≠ 2 := by simpa using h
      rw [if_neg hp]
      have hch := ndOK_child (hl i x hx)
      have hcl := (ndOK_fields (hl i x hx)).2.2.2.2.2
      refine SemC.loopR (σ := Nat) (fun k => St.of [(2, .own 2), (6, .t (.i (depI l f (x.ch.take k)))), (18, .t (ints x.ch)), (19, .t (.i x.ch.length)), (20, .t (.i k))] [(2, .box [nodes l])]) (fun k => k ≤ x.ch.length) (fun k => x.ch.length - k) 0 (Weak.of _ _ [some 2] (by simp) (by simp) ?_ ?_) (by simp) fun k hk R hn hr he => ?_
      · simp -implicitDefEqProofs only [ints, rows, Nat.reduceBEq, wkR, Nat.reduceEqDiff, ↓reduceIte, wrR, depI, List.take_zero, List.foldl_nil]
      · exact ⟨⟨_, rfl, .refl _⟩, rfl, trivial⟩
      · simp -implicitDefEqProofs only [go_sem, evR, ints, rows, rat, rats, nodes]
        refine ⟨fun h => ⟨by omega, by omega, by omega, fun c hc => ?_⟩, fun h => he _ _ ?_⟩
        · have hcb := hch c (List.mem_of_getElem? hc)
          have hpure := ih c.toNat (by omega) (by omega) (by omega)
          rw [show ((c.toNat : Nat) : Int) = c by omega] at hpure
          simp only [treeT, nodes] at hpure
          refine CallW.pure hpure [] rfl Try.call164 ?_ (by first | trivial | simp [T.noSh, T.noShL, rat]) rfl ?_
          · simp -implicitDefEqProofs only [agR, Nat.reduceLeDiff, Nat.reduceSub, vaR, go_sem, ints, rows, rat, rats, ratsO, rtR, intsO, rowsO]
          simp -implicitDefEqProofs only [go_sem, evR, ints, rows, rat, rats, treeT, nodes]
          have e := depI_snoc l f (x.ch.take k) c
          rw [← take_snoc hc] at e
          refine hn _ (k + 1) (Weak.of _ _ [some 2] (by simp) (by simp) ?_ ?_) (by omega) (by omega)
          · simp -implicitDefEqProofs only [ints, rows, Nat.reduceBEq, wkR, Nat.reduceEqDiff, ↓reduceIte, wrR, next64 (by omega : k < x.ch.length) (by omega), e]
          · exact ⟨⟨_, rfl, .refl _⟩, rfl, trivial⟩
        · simp -implicitDefEqProofs only [go_sem, evR, ints, rows, rat, rats]
          have hb := depI_bound l f x.ch
          rw [show k = x.ch.length by omega, List.take_length, wrap64 (by omega) (by omega)]

theorem spec_l20Depth_ok {l : List Nd} (hl : ndsOK l) (hln : l.length ≤ 1000000) : ∀ (f i : Nat), l.length ≤ i + f → i < l.length → f ≤ 1000000 → Pure Try.prog 158 [treeT l, .i i] (.i (dep l f i)) := by
  intro f
  induction f with
  | zero => intro i h1 h2; omega
  | succ f ih =>
    intro i h1 h2 hf
    obtain ⟨x, hx⟩ : ∃ x, l[i]? = some x := ⟨_, List.getElem?_eq_getElem h2⟩
    rw [dep_succ hx]
    refine fun_spec_l20Depth (by simp) ?_
    simp -implicitDefEqProofs only [go_sem, evR, ints, rows, rat, rats, c_spec_l20Depth, treeT, nodes, nd_at hx]
    refine ⟨by omega, by rw [nd_len]; omega, by rw [nd_len]; omega, ?_⟩
    refine ⟨fun h => ?_, fun h => ?_⟩
    · rw [if_pos (by simpa using h)]
    · have hp : x.p ≠ 2 := by simpa using h
      rw [if_neg hp]
      have hch := ndOK_child (hl i x hx)
      have hcl := (ndOK_fields (hl i x hx)).2.2.2.2.2
      refine SemC.loopR (σ := Nat) (fun k => St.of [(2, .own 2), (5, .own 5), (6, .t (.i (depI l f (x.ch.take k)))), (7, .t (.i k))] [(2, .box [nodes l]), (5, .box [.i x.p, .i x.a, .i x.b, .i x.f, ints x.ch])]) (fun k => k ≤ x.ch.length) (fun k => x.ch.length - k) 0 (Weak.of _ _ [some 2, some 5] (by simp) (by simp) ?_ ?_) (by simp) fun k hk R hn hr he => ?_
      · simp -implicitDefEqProofs only [ints, rows, Nat.reduceBEq, wkR, Nat.reduceEqDiff, ↓reduceIte, wrR, depI, List.take_zero, List.foldl_nil]
      · exact ⟨⟨_, rfl, .refl _⟩, rfl, ⟨_, rfl, .refl _⟩, rfl, trivial⟩
      · simp -implicitDefEqProofs only [go_sem, evR, ints, rows, rat, rats, nodes]
        refine ⟨fun h => ⟨by omega, by omega, by omega, fun c hc => ?_⟩, fun h => he _ _ ?_⟩
        · have hcb := hch c (List.mem_of_getElem? hc)
          have hpure := ih c.toNat (by omega) (by omega) (by omega)
          rw [show ((c.toNat : Nat) : Int) = c by omega] at hpure
          simp only [treeT, nodes] at hpure
          refine CallV.pure hpure [] rfl Try.call158 (fun e R' hR => ?_) (by first | trivial | simp [T.noSh, T.noShL, rat]) (fun _ => rfl) ?_
          · simp -implicitDefEqProofs only [agR, Nat.reduceLeDiff, Nat.reduceSub, vaR, go_sem, ints, rows, rat, rats, ratsO, rtR, intsO, rowsO]
          simp -implicitDefEqProofs only [go_sem, evR, ints, rows, rat, rats, treeT, nodes]
          have e := depI_snoc l f (x.ch.take k) c
          rw [← take_snoc hc] at e
          refine hn _ (k + 1) (Weak.of _ _ [some 2, some 5] (by simp) (by simp) ?_ ?_) (by omega) (by omega)
          · simp -implicitDefEqProofs only [ints, rows, Nat.reduceBEq, wkR, Nat.reduceEqDiff, ↓reduceIte, wrR, next64 (by omega : k < x.ch.length) (by omega), e]
          · exact ⟨⟨_, rfl, .refl _⟩, rfl, ⟨_, rfl, .refl _⟩, rfl, trivial⟩
        · simp -implicitDefEqProofs only [go_sem, evR, ints, rows, rat, rats]
          have hb := depI_bound l f x.ch
          rw [show k = x.ch.length by omega, List.take_length, wrap64 (by omega) (by omega)]
end Go.Ab

/- Contracts: valid trees, the program's. -/
set_option linter.unusedSimpArgs false
set_option linter.unusedVariables false
namespace Go.Ab
open Go.Proofs

theorem isTreeB_nd {l : List Nd} {i : Nat} {x : Nd} (hx : l[i]? = some x) (h : ndOK l.length i x = false) : isTreeB l = false := by
  cases hc : isTreeB l with
  | false => rfl
  | true =>
    have := (isTreeB_spec hc).2.1 i x hx
    rw [h] at this; cases this
theorem isTreeB_occ {l : List Nd} {i : Nat} (hi : i < l.length) (h1 : 1 ≤ i) (h : occ i l ≠ 1) : isTreeB l = false := by
  cases hc : isTreeB l with
  | false => rfl
  | true => rcases (isTreeB_spec hc).2.2.1 i hi with h2 | h2 <;> omega
theorem isTreeB_len {l : List Nd} (h : ¬ (1 ≤ l.length ∧ l.length ≤ 60)) : isTreeB l = false := by
  cases hc : isTreeB l with
  | false => rfl
  | true => exact absurd (isTreeB_spec hc).1 h
theorem isTreeB_fin {l : List Nd} (h1 : 1 ≤ l.length ∧ l.length ≤ 60) (h2 : ndsOK l) (h3 : ∀ i, i < l.length → i = 0 ∨ occ i l = 1) : isTreeB l = decide (dep l l.length 0 ≤ 5) := by
  rw [isTreeB, decide_eq_true h1, (ndsOK_iff l).2 h2]
  have : ((List.range l.length).all fun i => decide (i = 0 ∨ occ i l = 1)) = true := by
    rw [List.all_eq_true]
    intro i hi
    simpa using h3 i (List.mem_range.1 hi)
  rw [this]; simp
theorem ndOK_incr {n i : Nat} {x : Nd} (h : ndOK n i x = true) (hp : x.p ≠ 2) : incr x.ch = true := by
  simp only [ndOK, Bool.and_eq_true] at h
  have h2 := h.2
  rw [if_neg hp] at h2
  simp only [Bool.and_eq_true] at h2
  exact h2.2
theorem ndOK_no {n i : Nat} {x : Nd} (h : ndOK n i x = true → False) : ndOK n i x = false := by
  cases hc : ndOK n i x with
  | false => rfl
  | true => exact (h hc).elim
theorem ndOK_end {n i : Nat} {x : Nd} (h1 : 0 ≤ x.p ∧ x.p ≤ 2) (h2 : 0 ≤ x.a ∧ x.a ≤ 100) (h3 : 0 ≤ x.b ∧ x.b ≤ 100) (hp : x.p = 2) (h4 : x.ch.length = 0) (h5 : -1 ≤ x.f ∧ x.f ≤ 1) (h6 : x.f = -1 → x.a = x.b) : ndOK n i x = true := by
  rw [ndOK, decide_eq_true h1, decide_eq_true h2, decide_eq_true h3, if_pos hp, decide_eq_true (List.length_eq_zero_iff.1 h4), decide_eq_true h5]
  by_cases hf : x.f = -1
  · simp [h6 hf]
  · simp [hf]
theorem ndOK_dec {n i : Nat} {x : Nd} (h1 : 0 ≤ x.p ∧ x.p ≤ 2) (h2 : 0 ≤ x.a ∧ x.a ≤ 100) (h3 : 0 ≤ x.b ∧ x.b ≤ 100) (hp : x.p ≠ 2) (h4 : x.f = -1) (h5 : 1 ≤ x.ch.length ∧ x.ch.length ≤ 4) (h6 : (x.ch.all fun c => decide ((i : Int) + 1 ≤ c ∧ c ≤ (n : Int) - 1)) = true) (h7 : incr x.ch = true) : ndOK n i x = true := by
  rw [ndOK, decide_eq_true h1, decide_eq_true h2, decide_eq_true h3, if_neg hp, decide_eq_true h4, decide_eq_true h5, h6, h7]; rfl

theorem occ_le' (c : Nat) : ∀ (m : List Nd), (∀ x ∈ m, x.ch.length ≤ 4) → occ c m ≤ m.length * 4
  | [], _ => by simp [occ]
  | x :: m, hm => by
    have h1 := occ_le' c m fun y hy => hm y (by simp [hy])
    have h2 := hm x (by simp)
    have e : occ c (x :: m) = (if x.p = 2 then 0 else x.ch.count (c : Int)) + occ c m := by simp [occ]
    have h3 : (if x.p = 2 then 0 else x.ch.count (c : Int)) ≤ 4 := by
      split
      · omega
      · exact Nat.le_trans (List.count_le_length) h2
    rw [e, List.length_cons]; omega
theorem impl_IsTree_ok (l : List Nd) (hl : l.length ≤ 9223372036854775807) (hcl : ∀ x ∈ l, x.ch.length ≤ 9223372036854775807) : Pure Try.prog 175 [treeT l] (.b (isTreeB l)) := by
  refine fun_impl_IsTree (by simp) ?_
  simp -implicitDefEqProofs only [go_sem, evR, ints, rows, rat, rats, c_impl_IsTree, treeT, nodes]
  refine CallW.pure (impl_within_ok l.length 1 60) [] rfl Try.call110 ?_ (by first | trivial | simp [T.noSh, T.noShL, rat]) rfl ?_
  · simp -implicitDefEqProofs only [agR, Nat.reduceLeDiff, Nat.reduceSub, vaR, go_sem, ints, rows, rat, rats, ratsO, rtR, intsO, rowsO]
  simp -implicitDefEqProofs only [go_sem, evR, ints, rows, rat, rats]
  refine ⟨fun h => ?_, fun h => ?_⟩
  · rw [isTreeB_len (by simp at h; omega)]
  · have hn : 1 ≤ l.length ∧ l.length ≤ 60 := by simp at h; omega
    refine ⟨by omega, by omega, ?_⟩
    refine SemC.loopR (σ := Nat) (fun i => St.of [(1, .own 1), (3, .t (.i l.length)), (4, .own 18), (20, .t (nodes l)), (21, .t (.i l.length)), (22, .t (.i i))] [(1, .box [nodes l]), (18, .arr 1 ((cntV l l.length i 0).map T.i))]) (fun i => i ≤ l.length ∧ ∀ j x, j < i → l[j]? = some x → ndOK l.length j x = true) (fun i => l.length - i) 0 (Weak.of _ _ [some 1, some 18] (by simp) (by simp) ?_ ?_) ⟨by simp, fun j x hj => by omega⟩ fun i hI R hn' hr he => ?_
    · simp -implicitDefEqProofs only [ints, rows, Nat.reduceBEq, wkR, Nat.reduceEqDiff, ↓reduceIte, wrR, nodes]
    · exact ⟨⟨_, rfl, .refl _⟩, rfl, ⟨_, rfl, by rw [made_one, cntV_zero, List.map_replicate]; exact .refl _⟩, rfl, trivial⟩
    · obtain ⟨hi, hOK⟩ := hI
      simp -implicitDefEqProofs only [go_sem, evR, ints, rows, rat, rats, nodes]
      refine ⟨fun h => ?_, fun h => he _ _ ?_⟩
      · have hil : i < l.length := by omega
        obtain ⟨x, hx⟩ : ∃ x, l[i]? = some x := ⟨_, List.getElem?_eq_getElem hil⟩
        have hwi : IntKind.i64.wrap ((i : Int) + 1) = (i : Int) + 1 := wrap64 (by omega) (by omega)
        have hwn : IntKind.i64.wrap ((l.length : Int) - 1) = (l.length : Int) - 1 := wrap64 (by omega) (by omega)
        have hno : (ndOK l.length i x = true → False) → isTreeB l = false := fun h => isTreeB_nd hx (ndOK_no h)
        have hxc := hcl x (List.mem_of_getElem? hx)
        refine ⟨by omega, by rw [nd_len]; omega, by rw [nd_len]; omega, ?_⟩
        rw [nd_at hx]
        simp -implicitDefEqProofs only [go_sem, evR, ints, rows, rat, rats]
        refine CallW.pure (impl_within_ok x.p 0 2) [] rfl Try.call110 ?_ (by first | trivial | simp [T.noSh, T.noShL, rat]) rfl ?_
        · simp -implicitDefEqProofs only [agR, Nat.reduceLeDiff, Nat.reduceSub, vaR, go_sem, ints, rows, rat, rats, ratsO, rtR, intsO, rowsO]
        simp -implicitDefEqProofs only [go_sem, evR, ints, rows, rat, rats]
        refine ⟨fun h1 => ?_, fun h1 => hr _ ?_⟩
        rotate_left
        · simp -implicitDefEqProofs only [go_sem, evR, ints, rows, rat, rats]
          rw [hno fun hok => by have := (ndOK_fields hok).1; simp at h1; omega]
        have h1 : 0 ≤ x.p ∧ x.p ≤ 2 := by simpa using h1
        refine CallW.pure (impl_within_ok x.a 0 100) [] rfl Try.call110 ?_ (by first | trivial | simp [T.noSh, T.noShL, rat]) rfl ?_
        · simp -implicitDefEqProofs only [agR, Nat.reduceLeDiff, Nat.reduceSub, vaR, go_sem, ints, rows, rat, rats, ratsO, rtR, intsO, rowsO]
        simp -implicitDefEqProofs only [go_sem, evR, ints, rows, rat, rats]
        refine ⟨fun h2 => ?_, fun h2 => hr _ ?_⟩
        rotate_left
        · simp -implicitDefEqProofs only [go_sem, evR, ints, rows, rat, rats]
          rw [hno fun hok => by have := (ndOK_fields hok).2.1; simp at h2; omega]
        have h2 : 0 ≤ x.a ∧ x.a ≤ 100 := by simpa using h2
        refine CallW.pure (impl_within_ok x.b 0 100) [] rfl Try.call110 ?_ (by first | trivial | simp [T.noSh, T.noShL, rat]) rfl ?_
        · simp -implicitDefEqProofs only [agR, Nat.reduceLeDiff, Nat.reduceSub, vaR, go_sem, ints, rows, rat, rats, ratsO, rtR, intsO, rowsO]
        simp -implicitDefEqProofs only [go_sem, evR, ints, rows, rat, rats]
        refine ⟨fun h3 => hr _ ?_, fun h3 => ⟨fun h4 => ⟨fun h5 => ?_, fun h5 => hr _ ?_⟩, fun h4 => ⟨fun h5 => ?_, fun h5 => hr _ ?_⟩⟩⟩
        · simp -implicitDefEqProofs only [go_sem, evR, ints, rows, rat, rats]
          rw [hno fun hok => by have := (ndOK_fields hok).2.2.1; simp at h3; omega]
        · -- the end of a way
          have h3 : 0 ≤ x.b ∧ x.b ≤ 100 := by simpa using h3
          have h4 : x.p = 2 := by simpa using h4
          refine CallW.pure (impl_within_ok x.f (-1) 1) [] rfl Try.call110 ?_ (by first | trivial | simp [T.noSh, T.noShL, rat]) rfl ?_
          · simp -implicitDefEqProofs only [agR, Nat.reduceLeDiff, Nat.reduceSub, vaR, go_sem, ints, rows, rat, rats, ratsO, rtR, intsO, rowsO]
          simp -implicitDefEqProofs only [go_sem, evR, ints, rows, rat, rats]
          have hnext : ndOK l.length i x = true → ∀ j y, j < i + 1 → l[j]? = some y → ndOK l.length j y = true := fun hok j y hj hy => by
            by_cases hji : j = i
            · subst hji; rw [hx] at hy; cases hy; exact hok
            · exact hOK j y (by omega) hy
          refine ⟨fun h6 => ⟨fun h7 => ⟨fun h8 => hr _ ?_, fun h8 => ?_⟩, fun h7 => ?_⟩, fun h6 => hr _ ?_⟩
          · simp -implicitDefEqProofs only [go_sem, evR, ints, rows, rat, rats]
            rw [hno fun hok => by have := ((ndOK_fields hok).2.2.2.1 h4).2.2.2 (by simpa using h7); simp [this] at h8]
          · refine hn' _ (i + 1) (Weak.of _ _ [some 1, some 18] (by simp) (by simp) ?_ ?_) ⟨by omega, hnext (ndOK_end h1 h2 h3 h4 (by omega) (by simpa using h6) fun _ => by simpa using h8)⟩ (by omega)
            · simp -implicitDefEqProofs only [ints, rows, Nat.reduceBEq, wkR, Nat.reduceEqDiff, ↓reduceIte, wrR, nodes, next64 hil (by omega)]
            · exact ⟨⟨_, rfl, .refl _⟩, rfl, ⟨_, rfl, by rw [cntV_skip hx (List.length_eq_zero_iff.1 (by omega))]; exact .refl _⟩, rfl, trivial⟩
          · refine hn' _ (i + 1) (Weak.of _ _ [some 1, some 18] (by simp) (by simp) ?_ ?_) ⟨by omega, hnext (ndOK_end h1 h2 h3 h4 (by omega) (by simpa using h6) fun hf => by simp [hf] at h7)⟩ (by omega)
            · simp -implicitDefEqProofs only [ints, rows, Nat.reduceBEq, wkR, Nat.reduceEqDiff, ↓reduceIte, wrR, nodes, next64 hil (by omega)]
            · exact ⟨⟨_, rfl, .refl _⟩, rfl, ⟨_, rfl, by rw [cntV_skip hx (List.length_eq_zero_iff.1 (by omega))]; exact .refl _⟩, rfl, trivial⟩
          · simp -implicitDefEqProofs only [go_sem, evR, ints, rows, rat, rats]
            rw [hno fun hok => by have := (ndOK_fields hok).2.2.2.1 h4; simp at h6; omega]
        · simp -implicitDefEqProofs only [go_sem, evR, ints, rows, rat, rats]
          rw [hno fun hok => by have := (ndOK_fields hok).2.2.2.1 (by simpa using h4); rw [this.1] at h5; simp at h5]
        · -- a decision
          have h3 : 0 ≤ x.b ∧ x.b ≤ 100 := by simpa using h3
          have h4 : ¬ x.p = 2 := by simpa using h4
          have h5 : x.f = -1 := by simpa using h5
          refine CallW.pure (impl_within_ok x.ch.length 1 4) [] rfl Try.call110 ?_ (by first | trivial | simp [T.noSh, T.noShL, rat]) rfl ?_
          · simp -implicitDefEqProofs only [agR, Nat.reduceLeDiff, Nat.reduceSub, vaR, go_sem, ints, rows, rat, rats, ratsO, rtR, intsO, rowsO]
          simp -implicitDefEqProofs only [go_sem, evR, ints, rows, rat, rats, hwi, hwn]
          refine ⟨fun h6 => ?_, fun h6 => hr _ ?_⟩
          rotate_left
          · simp -implicitDefEqProofs only [go_sem, evR, ints, rows, rat, rats]
            rw [hno fun hok => by have := (ndOK_fields hok).2.2.2.2.1 h4; have := (ndOK_fields hok).2.2.2.2.2; simp at h6; omega]
          have h6 : 1 ≤ x.ch.length ∧ x.ch.length ≤ 4 := by simp at h6; omega
          refine CallW.pure (impl_allWithin_ok x.ch ((i : Int) + 1) ((l.length : Int) - 1) (by omega)) [] rfl Try.call176 ?_ (by first | trivial | simp [T.noSh, T.noShL, rat]) rfl ?_
          · simp -implicitDefEqProofs only [agR, Nat.reduceLeDiff, Nat.reduceSub, vaR, go_sem, ints, rows, rat, rats, ratsO, rtR, intsO, rowsO]
          simp -implicitDefEqProofs only [go_sem, evR, ints, rows, rat, rats]
          refine ⟨fun h7 => ?_, fun h7 => hr _ ?_⟩
          rotate_left
          · simp -implicitDefEqProofs only [go_sem, evR, ints, rows, rat, rats]
            rw [hno fun hok => by
              have hc := ndOK_child hok
              have : (x.ch.all fun c => decide ((i : Int) + 1 ≤ c ∧ c ≤ (l.length : Int) - 1)) = true := by rw [List.all_eq_true]; intro c hcm; exact decide_eq_true (hc c hcm)
              rw [this] at h7; simp at h7]
          have h7 : (x.ch.all fun c => decide ((i : Int) + 1 ≤ c ∧ c ≤ (l.length : Int) - 1)) = true := by simpa using h7
          refine CallW.pure (impl_increasing_ok x.ch (by omega)) [] rfl Try.call212 ?_ (by first | trivial | simp [T.noSh, T.noShL, rat]) rfl ?_
          · simp -implicitDefEqProofs only [agR, Nat.reduceLeDiff, Nat.reduceSub, vaR, go_sem, ints, rows, rat, rats, ratsO, rtR, intsO, rowsO]
          simp -implicitDefEqProofs only [go_sem, evR, ints, rows, rat, rats]
          refine ⟨fun h8 => hr _ ?_, fun h8 => ?_⟩
          · simp -implicitDefEqProofs only [go_sem, evR, ints, rows, rat, rats]
            rw [hno fun hok => by rw [ndOK_incr hok h4] at h8; simp at h8]
          have h8 : incr x.ch = true := by simpa using h8
          have hok := ndOK_dec h1 h2 h3 h4 h5 h6 h7 h8
          have hch := ndOK_child hok
          have hd : l.getD i nd0 = x := by rw [List.getD_eq_getElem?_getD, hx]; rfl
          refine SemC.loopR (σ := Nat) (fun k => St.of [(1, .own 1), (3, .t (.i l.length)), (4, .own 18), (20, .t (nodes l)), (21, .t (.i l.length)), (22, .t (.i i)), (95, .t (ints x.ch)), (96, .t (.i x.ch.length)), (97, .t (.i k))] [(1, .box [nodes l]), (18, .arr 1 ((cntV l l.length i k).map T.i))]) (fun k => k ≤ x.ch.length) (fun k => x.ch.length - k) 0 (Weak.of _ _ [some 1, some 18] (by simp) (by simp) ?_ ?_) (by simp) fun k hk R2 hn2 hr2 he2 => ?_
          · simp -implicitDefEqProofs only [ints, rows, Nat.reduceBEq, wkR, Nat.reduceEqDiff, ↓reduceIte, wrR, nodes]
          · exact ⟨⟨_, rfl, .refl _⟩, rfl, ⟨_, rfl, .refl _⟩, rfl, trivial⟩
          · have hcl' := cntV_length l l.length i k
            simp -implicitDefEqProofs only [go_sem, evR, ints, rows, rat, rats, nodes]
            refine ⟨fun h9 => ⟨by omega, by omega, by omega, fun c hc => ?_⟩, fun h9 => he2 _ _ ?_⟩
            · have hcb := hch c (List.mem_of_getElem? hc)
              obtain ⟨cn, rfl⟩ : ∃ cn : Nat, c = (cn : Int) := ⟨c.toNat, by omega⟩
              have hg := cntV_get l (n := l.length) (i := i) (k := k) (c := cn) (by omega)
              have hset := cntV_set (l := l) (n := l.length) (i := i) (k := k) (c := cn) (by omega) (by rw [hd]; exact hc)
              have hocc := occ_le' cn (l.take i) fun y hy => by
                obtain ⟨j, hj, rfl⟩ := List.mem_iff_getElem.1 hy
                rw [List.length_take] at hj
                rw [List.getElem_take]
                exact (ndOK_fields (hOK j _ (by omega) (List.getElem?_eq_getElem (by omega)))).2.2.2.2.2
              have hlt : (l.take i).length ≤ 60 := by rw [List.length_take]; omega
              have hcnt := List.count_le_length (a := (cn : Int)) (l := (l.getD i nd0).ch.take k)
              have hctl : ((l.getD i nd0).ch.take k).length ≤ 4 := by rw [List.length_take, hd]; omega
              simp only [toNat_cast, hcl', hg, Option.some.injEq, forall_eq']
              rw [wrap64 (n := (occ cn (l.take i) : Int) + (((l.getD i nd0).ch.take k).count (cn : Int) : Nat) + 1) (by omega) (by omega)]
              refine ⟨by omega, by omega, by omega, by omega, by omega, by omega, hn2 _ (k + 1) (Weak.of _ _ [some 1, some 18] (by simp) (by simp) ?_ ?_) (by omega) (by omega)⟩
              · simp -implicitDefEqProofs only [ints, rows, Nat.reduceBEq, wkR, Nat.reduceEqDiff, ↓reduceIte, wrR, nodes, next64 (by omega : k < x.ch.length) (by omega)]
              · refine ⟨⟨_, rfl, .refl _⟩, rfl, ⟨_, rfl, ?_⟩, rfl, trivial⟩
                rw [← hset, List.map_set]; exact .refl _
            · simp -implicitDefEqProofs only [go_sem, evR, ints, rows, rat, rats]
              have hke : k = x.ch.length := by omega
              refine hn' _ (i + 1) (Weak.of _ _ [some 1, some 18] (by simp) (by simp) ?_ ?_) ⟨by omega, fun j y hj hy => ?_⟩ (by omega)
              · simp -implicitDefEqProofs only [ints, rows, Nat.reduceBEq, wkR, Nat.reduceEqDiff, ↓reduceIte, wrR, nodes, next64 hil (by omega)]
              · exact ⟨⟨_, rfl, .refl _⟩, rfl, ⟨_, rfl, by rw [hke, cntV_next hx (fun hp => absurd hp h4)]; exact .refl _⟩, rfl, trivial⟩
              · by_cases hji : j = i
                · subst hji; rw [hx] at hy; cases hy; exact hok
                · exact hOK j y (by omega) hy
        · simp -implicitDefEqProofs only [go_sem, evR, ints, rows, rat, rats]
          rw [hno fun hok => by have := (ndOK_fields hok).2.2.2.2.1 (by simpa using h4); simp [this.1] at h5]
      · simp -implicitDefEqProofs only [go_sem, evR, ints, rows, rat, rats]
        have hie : i = l.length := by omega
        have hnds : ndsOK l := fun j y hy => hOK j y (by have := (List.getElem?_eq_some_iff.1 hy).1; omega) hy
        have hcl' := cntV_length l l.length i 0
        refine ⟨by omega, by omega, ?_⟩
        refine SemC.loopR (σ := Nat) (fun k => St.of [(1, .own 1), (110, .sub 18 1 (l.length - 1)), (111, .t (.i (l.length - 1 : Nat))), (112, .t (.i k))] [(1, .box [nodes l]), (18, .arr 1 ((cntV l l.length l.length 0).map T.i))]) (fun k => k ≤ l.length - 1 ∧ ∀ j, j < k → occ (j + 1) l = 1) (fun k => l.length - 1 - k) 0 (Weak.of _ _ [some 1, some 18] (by simp) (by simp) ?_ ?_) ⟨by simp, fun j hj => by omega⟩ fun k hI R2 hn2 hr2 he2 => ?_
        · simp -implicitDefEqProofs only [ints, rows, Nat.reduceBEq, wkR, Nat.reduceEqDiff, ↓reduceIte, wrR, nodes, hie, cntV_length]
        · exact ⟨⟨_, rfl, .refl _⟩, rfl, ⟨_, rfl, by rw [hie]; exact .refl _⟩, rfl, trivial⟩
        · obtain ⟨hk, hocc⟩ := hI
          simp -implicitDefEqProofs only [go_sem, evR, ints, rows, rat, rats, nodes]
          refine ⟨fun h9 => ⟨by omega, by omega, by rw [cntV_length]; omega, fun a ha => ?_⟩, fun h9 => he2 _ _ ?_⟩
          · rw [cntV_all l l.length (1 + k) (by omega)] at ha
            cases ha
            refine ⟨fun h10 => hr2 _ ?_, fun h10 => hn2 _ (k + 1) (Weak.of _ _ [some 1, some 18] (by simp) (by simp) ?_ ?_) ⟨by omega, fun j hj => ?_⟩ (by omega)⟩
            · simp -implicitDefEqProofs only [go_sem, evR, ints, rows, rat, rats]
              have h10 : ¬ occ (1 + k) l = 1 := by simp at h10; omega
              rw [isTreeB_occ (by omega : 1 + k < l.length) (by omega) h10]
            · simp -implicitDefEqProofs only [ints, rows, Nat.reduceBEq, wkR, Nat.reduceEqDiff, ↓reduceIte, wrR, nodes, next64 (by omega : k < l.length - 1) (by omega)]
            · exact ⟨⟨_, rfl, .refl _⟩, rfl, ⟨_, rfl, .refl _⟩, rfl, trivial⟩
            · by_cases hjk : j = k
              · have h10 : occ (1 + k) l = 1 := by
                  have : ((occ (1 + k) l : Nat) : Int) = 1 := by simpa using h10
                  omega
                rw [hjk, Nat.add_comm]; exact h10
              · exact hocc j (by omega)
          · simp -implicitDefEqProofs only [go_sem, evR, ints, rows, rat, rats, nodes]
            have hall : ∀ j, j < l.length → j = 0 ∨ occ j l = 1 := fun j hj => by
              by_cases hj0 : j = 0
              · exact .inl hj0
              · right
                have := hocc (j - 1) (by omega)
                rwa [show j - 1 + 1 = j by omega] at this
            have hdep := impl_depthFrom_ok hnds (by omega) l.length 0 (by omega) (by omega) (by omega)
            simp only [treeT, nodes] at hdep
            refine CallW.pure hdep [] rfl Try.call164 ?_ (by first | trivial | simp [T.noSh, T.noShL, rat]) rfl ?_
            · simp -implicitDefEqProofs only [agR, Nat.reduceLeDiff, Nat.reduceSub, vaR, go_sem, ints, rows, rat, rats, ratsO, rtR, intsO, rowsO]
            simp -implicitDefEqProofs only [go_sem, evR, ints, rows, rat, rats]
            rw [isTreeB_fin hn hnds hall]
end Go.Ab

/- Contracts: valid trees, the reference's. -/
set_option linter.unusedSimpArgs false
set_option linter.unusedVariables false
namespace Go.Ab
open Go.Proofs

theorem bnT {b : Bool} (h : (!b) = true) : b = false := by cases b <;> simp_all
theorem bnF {b : Bool} (h : (!b) = false) : b = true := by cases b <;> simp_all
theorem spec_l20Node_ok {l : List Nd} {i : Nat} {x : Nd} (hx : l[i]? = some x) (hl : l.length ≤ 1000000) (hxc : x.ch.length ≤ 9223372036854775807) : Pure Try.prog 224 [treeT l, .i i] (.b (ndOK l.length i x)) := by
  have hil := (List.getElem?_eq_some_iff.1 hx).1
  rw [ndOK_spec]
  refine fun_spec_l20Node (by simp) ?_
  simp -implicitDefEqProofs only [go_sem, evR, ints, rows, rat, rats, c_spec_l20Node, treeT, nodes, nd_at hx]
  refine ⟨by omega, by rw [nd_len]; omega, by rw [nd_len]; omega, ?_⟩
  refine CallW.pure (spec_l01In_ok x.p 0 2) [] rfl Try.call148 ?_ (by first | trivial | simp [T.noSh, T.noShL, rat]) rfl ?_
  · simp -implicitDefEqProofs only [agR, Nat.reduceLeDiff, Nat.reduceSub, vaR, go_sem, ints, rows, rat, rats, ratsO, rtR, intsO, rowsO]
  simp -implicitDefEqProofs only [go_sem, evR, ints, rows, rat, rats]
  refine ⟨fun h1 => ?_, fun h1 => by rw [show decide (0 ≤ x.p ∧ x.p ≤ 2) = false from bnT h1]; rfl⟩
  rw [show decide (0 ≤ x.p ∧ x.p ≤ 2) = true from bnF h1]
  refine CallW.pure (spec_l01In_ok x.a 0 100) [] rfl Try.call148 ?_ (by first | trivial | simp [T.noSh, T.noShL, rat]) rfl ?_
  · simp -implicitDefEqProofs only [agR, Nat.reduceLeDiff, Nat.reduceSub, vaR, go_sem, ints, rows, rat, rats, ratsO, rtR, intsO, rowsO]
  simp -implicitDefEqProofs only [go_sem, evR, ints, rows, rat, rats]
  refine ⟨fun h2 => ?_, fun h2 => by rw [show decide (0 ≤ x.a ∧ x.a ≤ 100) = false from bnT h2]; simp⟩
  rw [show decide (0 ≤ x.a ∧ x.a ≤ 100) = true from bnF h2]
  refine CallW.pure (spec_l01In_ok x.b 0 100) [] rfl Try.call148 ?_ (by first | trivial | simp [T.noSh, T.noShL, rat]) rfl ?_
  · simp -implicitDefEqProofs only [agR, Nat.reduceLeDiff, Nat.reduceSub, vaR, go_sem, ints, rows, rat, rats, ratsO, rtR, intsO, rowsO]
  simp -implicitDefEqProofs only [go_sem, evR, ints, rows, rat, rats]
  refine ⟨fun h3 => ?_, fun h3 => by rw [show decide (0 ≤ x.b ∧ x.b ≤ 100) = false from bnT h3]; simp⟩
  rw [show decide (0 ≤ x.b ∧ x.b ≤ 100) = true from bnF h3]
  refine CallW.pure (spec_l01In_ok x.f (-1) 1) [] rfl Try.call148 ?_ (by first | trivial | simp [T.noSh, T.noShL, rat]) rfl ?_
  · simp -implicitDefEqProofs only [agR, Nat.reduceLeDiff, Nat.reduceSub, vaR, go_sem, ints, rows, rat, rats, ratsO, rtR, intsO, rowsO]
  simp -implicitDefEqProofs only [go_sem, evR, ints, rows, rat, rats]
  refine ⟨fun h4 => by rw [show decide (-1 ≤ x.f ∧ x.f ≤ 1) = false from bnT h4]; simp, fun h4 => ?_⟩
  rw [show decide (-1 ≤ x.f ∧ x.f ≤ 1) = true from bnF h4]
  refine ⟨fun h5 => ?_, fun h5 => ?_⟩
  · have h5 : x.p = 2 := by simpa using h5
    rw [if_pos h5]
    refine ⟨fun h6 => ?_, fun h6 => ?_⟩
    · have h6 : x.ch.length = 0 := by
        have : (x.ch.length : Int) = 0 := by simpa using h6
        omega
      rw [decide_eq_true h6]
      refine ⟨fun h7 => ?_, fun h7 => by rw [decide_eq_true (show 0 ≤ x.f by omega)]; rfl⟩
      rw [decide_eq_false (show ¬ 0 ≤ x.f by omega)]
      by_cases h8 : x.a = x.b
      · rw [decide_eq_true h8, h8]; simp
      · rw [decide_eq_false h8]; simp [h8]
    · have h6 : ¬ x.ch.length = 0 := by
        have : ¬ (x.ch.length : Int) = 0 := by simpa using h6
        omega
      rw [decide_eq_false h6]; rfl
  · have h5 : ¬ x.p = 2 := by simpa using h5
    rw [if_neg h5]
    refine ⟨fun h6 => ?_, fun h6 => ?_⟩
    · have h6 : x.f = -1 := by simpa using h6
      rw [decide_eq_true h6]
      refine CallW.pure (spec_l01In_ok x.ch.length 1 4) [] rfl Try.call148 ?_ (by first | trivial | simp [T.noSh, T.noShL, rat]) rfl ?_
      · simp -implicitDefEqProofs only [agR, Nat.reduceLeDiff, Nat.reduceSub, vaR, go_sem, ints, rows, rat, rats, ratsO, rtR, intsO, rowsO]
      simp -implicitDefEqProofs only [go_sem, evR, ints, rows, rat, rats]
      refine ⟨fun h7 => ?_, fun h7 => ?_⟩
      · have h7 : 1 ≤ x.ch.length ∧ x.ch.length ≤ 4 := by
          have := bnF h7
          simp only [decide_eq_true_eq] at this; omega
        rw [decide_eq_true h7]
        refine CallW.pure (spec_l01Rises_ok x.ch l.length (by omega) (by omega)) [] rfl Try.call228 ?_ (by first | trivial | simp [T.noSh, T.noShL, rat]) rfl ?_
        · simp -implicitDefEqProofs only [agR, Nat.reduceLeDiff, Nat.reduceSub, vaR, go_sem, ints, rows, rat, rats, ratsO, rtR, intsO, rowsO]
        simp -implicitDefEqProofs only [go_sem, evR, ints, rows, rat, rats]
        refine ⟨fun h8 => by rw [bnT h8]; rfl, fun h8 => ⟨by omega, by omega, fun c hc => ?_⟩⟩
        rw [bnF h8]
        have hhd : x.ch.headD 0 = c := by
          cases hch : x.ch with
          | nil => rw [hch] at hc; simp at hc
          | cons a as' => rw [hch] at hc; simpa using hc
        rw [hhd]; rfl
      · have h7 : ¬ (1 ≤ x.ch.length ∧ x.ch.length ≤ 4) := by
          have := bnT h7
          simp only [decide_eq_false_iff_not] at this; omega
        rw [decide_eq_false h7]; rfl
    · have h6 : ¬ x.f = -1 := by simpa using h6
      rw [decide_eq_false h6]; rfl

section
attribute [-go_sem] load1C
theorem spec_IsTree_ok (l : List Nd) (hl : l.length ≤ 9223372036854775807) (hcl : ∀ x ∈ l, x.ch.length ≤ 9223372036854775807) : Pure Try.prog 194 [treeT l] (.b (isTreeB l)) := by
  refine fun_spec_IsTree (by simp) ?_
  simp -implicitDefEqProofs only [go_sem, evR, ints, rows, rat, rats, c_spec_IsTree, treeT, nodes]
  refine CallW.pure (spec_l01In_ok l.length 1 60) [] rfl Try.call148 ?_ (by first | trivial | simp [T.noSh, T.noShL, rat]) rfl ?_
  · simp -implicitDefEqProofs only [agR, Nat.reduceLeDiff, Nat.reduceSub, vaR, go_sem, ints, rows, rat, rats, ratsO, rtR, intsO, rowsO]
  simp -implicitDefEqProofs only [go_sem, evR, ints, rows, rat, rats]
  refine ⟨fun h => ?_, fun h => ?_⟩
  · rw [isTreeB_len (by have := bnT h; simp at this; omega)]
  · have hn : 1 ≤ l.length ∧ l.length ≤ 60 := by
      have := bnF h
      simp only [decide_eq_true_eq] at this; omega
    refine ⟨by omega, by omega, ?_⟩
    refine SemC.loopR (σ := Nat) (fun i => St.of [(1, .own 1), (3, .t (.i l.length)), (4, .own 15), (5, .t (.i i))] [(1, .box [nodes l]), (15, .arr 1 ((cntV l l.length i 0).map T.i))]) (fun i => i ≤ l.length ∧ ∀ j x, j < i → l[j]? = some x → ndOK l.length j x = true) (fun i => l.length - i) 0 (Weak.of _ _ [some 1, some 15] (by simp) (by simp) ?_ ?_) ⟨by simp, fun j x hj => by omega⟩ fun i hI R hn' hr he => ?_
    · simp -implicitDefEqProofs only [ints, rows, Nat.reduceBEq, wkR, Nat.reduceEqDiff, ↓reduceIte, wrR, nodes]
    · exact ⟨⟨_, rfl, .refl _⟩, rfl, ⟨_, rfl, by rw [made_one, cntV_zero, List.map_replicate]; exact .refl _⟩, rfl, trivial⟩
    · obtain ⟨hi, hOK⟩ := hI
      simp -implicitDefEqProofs only [go_sem, evR, ints, rows, rat, rats, nodes]
      refine ⟨fun h => ?_, fun h => he _ _ ?_⟩
      · have hil : i < l.length := by omega
        obtain ⟨x, hx⟩ : ∃ x, l[i]? = some x := ⟨_, List.getElem?_eq_getElem hil⟩
        have hxc := hcl x (List.mem_of_getElem? hx)
        have hnode := spec_l20Node_ok hx (by omega) hxc
        simp only [treeT, nodes] at hnode
        refine CallW.pure hnode [] rfl Try.call224 ?_ (by first | trivial | simp [T.noSh, T.noShL, rat]) rfl ?_
        · simp -implicitDefEqProofs only [agR, Nat.reduceLeDiff, Nat.reduceSub, vaR, go_sem, ints, rows, rat, rats, ratsO, rtR, intsO, rowsO]
        simp -implicitDefEqProofs only [go_sem, evR, ints, rows, rat, rats]
        refine ⟨fun h1 => hr _ ?_, fun h1 => ?_⟩
        · simp -implicitDefEqProofs only [go_sem, evR, ints, rows, rat, rats]
          rw [isTreeB_nd hx (bnT h1)]
        · have hok := bnF h1
          have hch := ndOK_child hok
          have hcl4 := (ndOK_fields hok).2.2.2.2.2
          have hd : l.getD i nd0 = x := by rw [List.getD_eq_getElem?_getD, hx]; rfl
          refine SemC.loopR (σ := Nat) (fun k => St.of [(1, .own 1), (3, .t (.i l.length)), (4, .own 15), (5, .t (.i i)), (6, .t (.i k))] [(1, .box [nodes l]), (15, .arr 1 ((cntV l l.length i k).map T.i))]) (fun k => k ≤ x.ch.length) (fun k => x.ch.length - k) 0 (Weak.of _ _ [some 1, some 15] (by simp) (by simp) ?_ ?_) (by simp) fun k hk R2 hn2 hr2 he2 => ?_
          · simp -implicitDefEqProofs only [ints, rows, Nat.reduceBEq, wkR, Nat.reduceEqDiff, ↓reduceIte, wrR, nodes]
          · exact ⟨⟨_, rfl, .refl _⟩, rfl, ⟨_, rfl, .refl _⟩, rfl, trivial⟩
          · have hcl' := cntV_length l l.length i k
            rcases Nat.lt_or_ge k x.ch.length with h9 | h9
            · obtain ⟨c, hc⟩ : ∃ c, x.ch[k]? = some c := ⟨_, List.getElem?_eq_getElem h9⟩
              have hcb := hch c (List.mem_of_getElem? hc)
              obtain ⟨cn, rfl⟩ : ∃ cn : Nat, c = (cn : Int) := ⟨c.toNat, by omega⟩
              have hg := cntV_get l (n := l.length) (i := i) (k := k) (c := cn) (by omega)
              simp -implicitDefEqProofs only [go_sem, evR, ints, rows, rat, rats, nodes, nd_get4 hx, decide_eq_true (show (k : Int) < (x.ch.length : Int) by omega), hc, hg]
              have hset := cntV_set (l := l) (n := l.length) (i := i) (k := k) (c := cn) (by omega) (by rw [hd]; exact hc)
              refine ⟨by omega, by rw [nd_len]; omega, by rw [nd_len]; omega, by omega, by rw [nd_len]; omega, by rw [nd_len]; omega, by omega, by omega, by omega, by omega, by omega, by omega, by omega, by omega, by omega, hn2 _ (k + 1) (Weak.of _ _ [some 1, some 15] (by simp) (by simp) ?_ ?_) (by omega) (by omega)⟩
              · simp -implicitDefEqProofs only [ints, rows, Nat.reduceBEq, wkR, Nat.reduceEqDiff, ↓reduceIte, wrR, nodes, next64 (by omega : k < x.ch.length) (by omega)]
              · refine ⟨⟨_, rfl, .refl _⟩, rfl, ⟨_, rfl, ?_⟩, rfl, trivial⟩
                have hocc := occ_le' cn (l.take i) fun y hy => by
                  obtain ⟨j, hj, rfl⟩ := List.mem_iff_getElem.1 hy
                  rw [List.length_take] at hj
                  rw [List.getElem_take]
                  exact (ndOK_fields (hOK j _ (by omega) (List.getElem?_eq_getElem (by omega)))).2.2.2.2.2
                have hlt : (l.take i).length ≤ 60 := by rw [List.length_take]; omega
                have hcnt := List.count_le_length (a := (cn : Int)) (l := (l.getD i nd0).ch.take k)
                have hctl : ((l.getD i nd0).ch.take k).length ≤ 4 := by rw [List.length_take, hd]; omega
                rw [wrap64 (n := (occ cn (l.take i) : Int) + (((l.getD i nd0).ch.take k).count (cn : Int) : Nat) + 1) (by omega) (by omega), ← hset, List.map_set]; exact .refl _
            · simp -implicitDefEqProofs only [go_sem, evR, ints, rows, rat, rats, nodes, nd_get4 hx, decide_eq_false (show ¬ (k : Int) < (x.ch.length : Int) by omega)]
              refine ⟨by omega, by rw [nd_len]; omega, by rw [nd_len]; omega, he2 _ _ ?_⟩
              simp -implicitDefEqProofs only [go_sem, evR, ints, rows, rat, rats]
              have hke : k = x.ch.length := by omega
              refine hn' _ (i + 1) (Weak.of _ _ [some 1, some 15] (by simp) (by simp) ?_ ?_) ⟨by omega, fun j y hj hy => ?_⟩ (by omega)
              · simp -implicitDefEqProofs only [ints, rows, Nat.reduceBEq, wkR, Nat.reduceEqDiff, ↓reduceIte, wrR, nodes, next64 hil (by omega)]
              · exact ⟨⟨_, rfl, .refl _⟩, rfl, ⟨_, rfl, by rw [hke, cntV_next hx (fun hp => ((ndOK_fields hok).2.2.2.1 hp).1)]; exact .refl _⟩, rfl, trivial⟩
              · by_cases hji : j = i
                · subst hji; rw [hx] at hy; cases hy; exact hok
                · exact hOK j y (by omega) hy
      · simp -implicitDefEqProofs only [go_sem, evR, ints, rows, rat, rats, nodes]
        have hie : i = l.length := by omega
        have hnds : ndsOK l := fun j y hy => hOK j y (by have := (List.getElem?_eq_some_iff.1 hy).1; omega) hy
        refine SemC.loopR (σ := Nat) (fun k => St.of [(1, .own 1), (3, .t (.i l.length)), (4, .own 15), (7, .t (.i k))] [(1, .box [nodes l]), (15, .arr 1 ((cntV l l.length l.length 0).map T.i))]) (fun k => 1 ≤ k ∧ k ≤ l.length ∧ ∀ j, 1 ≤ j → j < k → occ j l = 1) (fun k => l.length - k) 1 (Weak.of _ _ [some 1, some 15] (by simp) (by simp) ?_ ?_) ⟨by omega, by omega, fun j h1 h2 => by omega⟩ fun k hI R2 hn2 hr2 he2 => ?_
        · simp -implicitDefEqProofs only [ints, rows, Nat.reduceBEq, wkR, Nat.reduceEqDiff, ↓reduceIte, wrR, nodes]
        · exact ⟨⟨_, rfl, .refl _⟩, rfl, ⟨_, rfl, by rw [hie]; exact .refl _⟩, rfl, trivial⟩
        · obtain ⟨hk1, hk, hocc⟩ := hI
          rcases Nat.lt_or_ge k l.length with h9 | h9
          · have hg := cntV_all l l.length k h9
            have hcl' := cntV_length l l.length l.length 0
            simp -implicitDefEqProofs only [go_sem, evR, ints, rows, rat, rats, nodes, hg, decide_eq_true (show (k : Int) < (l.length : Int) by omega)]
            refine ⟨by omega, by omega, by omega, fun h10 => hr2 _ ?_, fun h10 => hn2 _ (k + 1) (Weak.of _ _ [some 1, some 15] (by simp) (by simp) ?_ ?_) ⟨by omega, by omega, fun j h1 h2 => ?_⟩ (by omega)⟩
            · simp -implicitDefEqProofs only [go_sem, evR, ints, rows, rat, rats]
              have h10 : ¬ occ k l = 1 := by simp at h10; omega
              rw [isTreeB_occ h9 (by omega) h10]
            · simp -implicitDefEqProofs only [ints, rows, Nat.reduceBEq, wkR, Nat.reduceEqDiff, ↓reduceIte, wrR, nodes, next64 h9 (by omega)]
            · exact ⟨⟨_, rfl, .refl _⟩, rfl, ⟨_, rfl, .refl _⟩, rfl, trivial⟩
            · by_cases hjk : j = k
              · have h10 : occ k l = 1 := by
                  have : ((occ k l : Nat) : Int) = 1 := by simpa using h10
                  omega
                rw [hjk]; exact h10
              · exact hocc j h1 (by omega)
          · simp -implicitDefEqProofs only [go_sem, evR, ints, rows, rat, rats, nodes, decide_eq_false (show ¬ (k : Int) < (l.length : Int) by omega)]
            refine he2 _ _ ?_
            simp -implicitDefEqProofs only [go_sem, evR, ints, rows, rat, rats]
            have hall : ∀ j, j < l.length → j = 0 ∨ occ j l = 1 := fun j hj => by
              by_cases hj0 : j = 0
              · exact .inl hj0
              · exact .inr (hocc j (by omega) (by omega))
            have hdep := spec_l20Depth_ok hnds (by omega) l.length 0 (by omega) (by omega) (by omega)
            simp only [treeT, nodes] at hdep
            refine CallW.pure hdep [] rfl Try.call158 ?_ (by first | trivial | simp [T.noSh, T.noShL, rat]) rfl ?_
            · simp -implicitDefEqProofs only [agR, Nat.reduceLeDiff, Nat.reduceSub, vaR, go_sem, ints, rows, rat, rats, ratsO, rtR, intsO, rowsO]
            simp -implicitDefEqProofs only [go_sem, evR, ints, rows, rat, rats]
            rw [isTreeB_fin hn hnds hall]
end
end Go.Ab

/- Parts out of weights, plainly: the greatest remainders first. -/
set_option linter.unusedSimpArgs false
set_option linter.unusedVariables false
namespace Go.Ab
open Go.Proofs

def maxI (r : List Int) : Nat → Nat
  | 0 => 0
  | k + 1 => if r.getD (maxI r k) 0 < r.getD k 0 then k else maxI r k
theorem maxI_lt (r : List Int) : ∀ k, k ≤ r.length → 0 < r.length → maxI r k < r.length
  | 0, _, h => h
  | k + 1, hk, h => by
    have := maxI_lt r k (by omega) h
    rw [maxI]; split <;> omega
theorem maxI_max (r : List Int) : ∀ k i, i < k → r.getD i 0 ≤ r.getD (maxI r k) 0
  | k + 1, i, h => by
    have ih := maxI_max r k
    rw [maxI]
    split
    · rename_i h1
      by_cases hi : i = k
      · rw [hi]; exact Int.le_refl _
      · have := ih i (by omega); omega
    · rename_i h1
      by_cases hi : i = k
      · rw [hi]; omega
      · exact ih i (by omega)
theorem sum_set {p : List Int} {b : Nat} (h : b < p.length) (x : Int) : (p.set b x).sum = p.sum - p.getD b 0 + x := by
  induction p generalizing b with
  | nil => simp at h
  | cons a p ih =>
    cases b with
    | zero => simp; omega
    | succ b =>
      have := ih (b := b) (by simpa using h)
      simp only [List.set_cons_succ, List.sum_cons, List.getD_cons_succ]
      omega
theorem sum_le_of {t : Int} : ∀ (w p : List Int), w.length = p.length → (∀ i, i < w.length → 60 * w.getD i 0 ≤ t * p.getD i 0) → 60 * w.sum ≤ t * p.sum
  | [], [], _, _ => by simp
  | a :: w, b :: p, hl, h => by
    have ih := sum_le_of w p (by simpa using hl) fun i hi => by simpa using h (i + 1) (by simpa using hi)
    have h0 := h 0 (by simp)
    simp only [List.getD_cons_zero] at h0
    simp only [List.sum_cons, Int.mul_add]
    omega
structure HamI (w : List Int) (t : Int) (m : Nat) (p r : List Int) : Prop where
  lp : p.length = w.length
  lr : r.length = w.length
  each : ∀ i, i < w.length → (r.getD i 0 = 60 * w.getD i 0 - t * p.getD i 0 ∧ 0 ≤ r.getD i 0 ∧ r.getD i 0 < t) ∨ (r.getD i 0 = -1 ∧ 60 * w.getD i 0 < t * p.getD i 0 ∧ t * p.getD i 0 < 60 * w.getD i 0 + t)
  sum : p.sum + m = 60
theorem HamI.best {w : List Int} {m : Nat} {p r : List Int} (h : HamI w w.sum (m + 1) p r) (ht : 0 < w.sum) : maxI r r.length < w.length ∧ 0 < r.getD (maxI r r.length) 0 := by
  have ⟨i, hi, hpos⟩ : ∃ i, i < w.length ∧ ¬ 60 * w.getD i 0 ≤ w.sum * p.getD i 0 := by
    by_cases hc : ∃ i, i < w.length ∧ ¬ 60 * w.getD i 0 ≤ w.sum * p.getD i 0
    · exact hc
    · have := sum_le_of (t := w.sum) w p h.lp.symm fun i hi => by
        by_cases h1 : 60 * w.getD i 0 ≤ w.sum * p.getD i 0
        · exact h1
        · exact absurd ⟨i, hi, h1⟩ hc
      have hs := h.sum
      have e : w.sum * p.sum = w.sum * (60 - (m + 1 : Nat)) := by rw [show p.sum = 60 - ((m + 1 : Nat) : Int) by omega]
      rw [e, Int.mul_sub] at this
      have h2 : 0 < w.sum * ((m + 1 : Nat) : Int) := Int.mul_pos ht (by omega)
      omega
  have hri : 0 < r.getD i 0 := by
    rcases h.each i hi with h1 | h1 <;> omega
  have hlr := h.lr
  have h1 := maxI_lt r r.length (Nat.le_refl _) (by omega)
  have h2 := maxI_max r r.length i (by omega)
  exact ⟨by omega, by omega⟩
theorem getD_set_self {l : List Int} {b : Nat} (h : b < l.length) (x : Int) : (l.set b x).getD b 0 = x := by
  rw [List.getD_eq_getElem?_getD, List.getElem?_set_self h]; rfl
theorem getD_set_other {l : List Int} {b i : Nat} (h : i ≠ b) (x : Int) : (l.set b x).getD i 0 = l.getD i 0 := by
  rw [List.getD_eq_getElem?_getD, List.getElem?_set_ne (Ne.symm h), List.getD_eq_getElem?_getD]
theorem HamI.step {w : List Int} {m : Nat} {p r : List Int} (h : HamI w w.sum (m + 1) p r) (ht : 0 < w.sum) : HamI w w.sum m (p.set (maxI r r.length) (p.getD (maxI r r.length) 0 + 1)) (r.set (maxI r r.length) (-1)) := by
  obtain ⟨hb, hr⟩ := h.best ht
  have hlp := h.lp
  have hlr := h.lr
  generalize maxI r r.length = b at hb hr
  refine ⟨by simp [hlp], by simp [hlr], fun i hi => ?_, ?_⟩
  · by_cases hib : i = b
    · subst hib
      right
      rw [getD_set_self (by omega), getD_set_self (by omega)]
      rcases h.each i hi with h1 | h1
      · rw [Int.mul_add]; omega
      · omega
    · rw [getD_set_other hib, getD_set_other hib]
      exact h.each i hi
  · have := h.sum
    rw [sum_set (by omega)]
    omega
end Go.Ab

/- Contracts: sums. -/
set_option linter.unusedSimpArgs false
set_option linter.unusedVariables false
namespace Go.Ab
open Go.Proofs

def smallL (l : List Int) : Prop := l.length ≤ 1000 ∧ ∀ x ∈ l, -1000000000000 ≤ x ∧ x ≤ 1000000000000
theorem smallL_sum {l : List Int} (h : smallL l) (k : Nat) : -1000000000000000 ≤ (l.take k).sum ∧ (l.take k).sum ≤ 1000000000000000 := by
  obtain ⟨h1, h2⟩ := h
  have key : ∀ (l : List Int), (∀ x ∈ l, -1000000000000 ≤ x ∧ x ≤ 1000000000000) → -(1000000000000 * (l.length : Int)) ≤ l.sum ∧ l.sum ≤ 1000000000000 * (l.length : Int) := by
    intro l
    induction l with
    | nil => intro _; simp
    | cons a l ih =>
      intro h
      have := ih fun x hx => h x (List.mem_cons_of_mem _ hx)
      have := h a (by simp)
      simp only [List.sum_cons, List.length_cons]
      omega
  have := key (l.take k) fun x hx => h2 x (List.mem_of_mem_take hx)
  have hl : (l.take k).length ≤ 1000 := by rw [List.length_take]; omega
  omega
theorem sum_snoc (l : List Int) (x : Int) : (l ++ [x]).sum = l.sum + x := by simp
theorem impl_sumOf_ok (l : List Int) (h : smallL l) : Pure Try.prog 200 [ints l] (.i l.sum) := by
  have hl := h.1
  refine fun_impl_sumOf (by simp) ?_
  simp -implicitDefEqProofs only [go_sem, evR, ints, rows, rat, rats, c_impl_sumOf]
  refine SemC.loopR (σ := Nat) (fun i => St.of [(3, .t (.i (l.take i).sum)), (6, .t (ints l)), (7, .t (.i l.length)), (8, .t (.i i))] []) (fun i => i ≤ l.length) (fun i => l.length - i) 0 (Weak.of _ [] [] (by simp) (by simp) ?_ trivial) (by omega) fun i hi R hn hr he => ?_
  · simp -implicitDefEqProofs only [ints, rows, Nat.reduceBEq, wkR, Nat.reduceEqDiff, ↓reduceIte, wrR, List.take_zero, List.sum_nil]
  · simp -implicitDefEqProofs only [go_sem, evR, ints, rows, rat, rats]
    refine ⟨fun h1 => ⟨by omega, by omega, by omega, fun x hx => ?_⟩, fun h1 => he _ _ ?_⟩
    · have e := sum_snoc (l.take i) x
      rw [← take_snoc hx] at e
      have hb := smallL_sum h (i + 1)
      refine hn _ (i + 1) (Weak.of _ [] [] (by simp) (by simp) ?_ trivial) (by omega) (by omega)
      simp -implicitDefEqProofs only [ints, rows, Nat.reduceBEq, wkR, Nat.reduceEqDiff, ↓reduceIte, wrR, next64 (by omega : i < l.length) (by omega), ← e, wrap64 (n := (l.take (i + 1)).sum) (by omega) (by omega)]
    · simp -implicitDefEqProofs only [go_sem, evR, ints, rows, rat, rats]
      rw [List.take_of_length_le (by omega)]
theorem spec_l01Sum_ok (l : List Int) (h : smallL l) : Pure Try.prog 187 [ints l] (.i l.sum) := by
  have hl := h.1
  refine fun_spec_l01Sum (by simp) ?_
  simp -implicitDefEqProofs only [go_sem, evR, ints, rows, rat, rats, c_spec_l01Sum]
  refine SemC.loopR (σ := Nat) (fun i => St.of [(0, .t (ints l)), (3, .t (.i (l.take i).sum)), (4, .t (.i i))] []) (fun i => i ≤ l.length) (fun i => l.length - i) 0 (Weak.of _ [] [] (by simp) (by simp) ?_ trivial) (by omega) fun i hi R hn hr he => ?_
  · simp -implicitDefEqProofs only [ints, rows, Nat.reduceBEq, wkR, Nat.reduceEqDiff, ↓reduceIte, wrR, List.take_zero, List.sum_nil]
  · simp -implicitDefEqProofs only [go_sem, evR, ints, rows, rat, rats]
    refine ⟨fun h1 => ⟨by omega, by omega, by omega, fun x hx => ?_⟩, fun h1 => he _ _ ?_⟩
    · have e := sum_snoc (l.take i) x
      rw [← take_snoc hx] at e
      have hb := smallL_sum h (i + 1)
      refine hn _ (i + 1) (Weak.of _ [] [] (by simp) (by simp) ?_ trivial) (by omega) (by omega)
      simp -implicitDefEqProofs only [ints, rows, Nat.reduceBEq, wkR, Nat.reduceEqDiff, ↓reduceIte, wrR, next64 (by omega : i < l.length) (by omega), ← e, wrap64 (n := (l.take (i + 1)).sum) (by omega) (by omega)]
    · simp -implicitDefEqProofs only [go_sem, evR, ints, rows, rat, rats]
      rw [List.take_of_length_le (by omega)]
end Go.Ab

/- Contracts: valid games. -/
set_option linter.unusedSimpArgs false
set_option linter.unusedVariables false
namespace Go.Ab
open Go.Proofs

theorem sumI_eq : ∀ l : List Int, sumI l = l.sum
  | [] => rfl
  | x :: l => by rw [sumI, List.sum_cons, sumI_eq l]
theorem totW_snoc (w : List (List Int)) (r : List Int) : totW (w ++ [r]) = totW w + r.sum := by
  simp only [totW, List.map_append, List.map_cons, List.map_nil]
  rw [sumI_snoc, sumI_eq r]
theorem totW_nil : totW [] = 0 := rfl
def smallW (w : List (List Int)) : Prop := w.length ≤ 6 ∧ ∀ r ∈ w, r.length ≤ 6 ∧ ∀ x ∈ r, 0 ≤ x ∧ x ≤ 9
theorem smallW_row {w : List (List Int)} (h : smallW w) {r : List Int} (hr : r ∈ w) : smallL r := ⟨by have := (h.2 r hr).1; omega, fun x hx => by have := (h.2 r hr).2 x hx; omega⟩
theorem totW_bound {w : List (List Int)} (h : smallW w) (k : Nat) : 0 ≤ totW (w.take k) ∧ totW (w.take k) ≤ 324 := by
  have h1 : ∀ x ∈ (w.take k).map sumI, 0 ≤ x := fun x hx => by
    obtain ⟨r, hr, rfl⟩ := List.mem_map.1 hx
    exact sumI_nonneg fun y hy => ((h.2 r (List.mem_of_mem_take hr)).2 y hy).1
  have h2 : ∀ x ∈ (w.take k).map sumI, x ≤ 54 := fun x hx => by
    obtain ⟨r, hr, rfl⟩ := List.mem_map.1 hx
    have := sumI_le (b := 9) fun y hy => ((h.2 r (List.mem_of_mem_take hr)).2 y hy).2
    have := (h.2 r (List.mem_of_mem_take hr)).1
    omega
  refine ⟨sumI_nonneg h1, ?_⟩
  have := sumI_le h2
  rw [List.length_map, List.length_take] at this
  have := h.1
  unfold totW; omega
theorem smallW_of {w : List (List Int)} {k : Nat} (h : matK w k 0 9 = true) (hk : k ≤ 6) : smallW w := by
  obtain ⟨h1, h2⟩ := matK_spec h
  exact ⟨by omega, fun r hr => ⟨by have := (h2 r hr).1; omega, fun x hx => by have := (h2 r hr).2 x hx; omega⟩⟩

theorem next63 {i n : Nat} (h : i < n) (hn : n ≤ 9223372036854775807) : IntKind.i64.wrap ((i : Int) + 1) = ((i + 1 : Nat) : Int) := by
  rw [wrap64 (by omega) (by omega)]; omega
section
attribute [-go_sem] load1C
theorem impl_totalWeight_ok (g : Gm) (h : smallW g.w) : Pure Try.prog 177 [gameT g] (.i (totW g.w)) := by
  have hl := h.1
  refine fun_impl_totalWeight (by simp) ?_
  simp -implicitDefEqProofs only [go_sem, evR, ints, rows, rat, rats, c_impl_totalWeight, gameT, nodes]
  refine SemC.loopR (σ := Nat) (fun i => St.of [(3, .t (.i (totW (g.w.take i)))), (7, .t (rows g.w)), (8, .t (.i g.w.length)), (9, .t (.i i))] []) (fun i => i ≤ g.w.length) (fun i => g.w.length - i) 0 (Weak.of _ [] [] (by simp) (by simp) ?_ trivial) (by omega) fun i hi R hn hr he => ?_
  · simp -implicitDefEqProofs only [ints, rows, Nat.reduceBEq, wkR, Nat.reduceEqDiff, ↓reduceIte, wrR, List.take_zero, totW_nil]
  · rcases Nat.lt_or_ge i g.w.length with h9 | h9
    · obtain ⟨r, hx⟩ : ∃ r, g.w[i]? = some r := ⟨_, List.getElem?_eq_getElem h9⟩
      simp -implicitDefEqProofs only [go_sem, evR, ints, rows, rat, rats, hx, decide_eq_true (show (i : Int) < (g.w.length : Int) by omega)]
      refine ⟨by omega, by omega, by omega, ?_⟩
      refine CallW.pure (impl_sumOf_ok r (smallW_row h (List.mem_of_getElem? hx))) [] rfl Try.call200 ?_ (by first | trivial | simp [T.noSh, T.noShL, rat]) rfl ?_
      · simp -implicitDefEqProofs only [agR, Nat.reduceLeDiff, Nat.reduceSub, vaR, go_sem, ints, rows, rat, rats, ratsO, rtR, intsO, rowsO]
      simp -implicitDefEqProofs only [go_sem, evR, ints, rows, rat, rats]
      have e := totW_snoc (g.w.take i) r
      rw [← take_snoc hx] at e
      have hb := totW_bound h (i + 1)
      refine hn _ (i + 1) (Weak.of _ [] [] (by simp) (by simp) ?_ trivial) (by omega) (by omega)
      simp -implicitDefEqProofs only [ints, rows, Nat.reduceBEq, wkR, Nat.reduceEqDiff, ↓reduceIte, wrR, next64 h9 (by omega), ← e, wrap64 (n := totW (g.w.take (i + 1))) (by omega) (by omega)]
    · simp -implicitDefEqProofs only [go_sem, evR, ints, rows, rat, rats, decide_eq_false (show ¬ (i : Int) < (g.w.length : Int) by omega)]
      refine he _ _ ?_
      simp -implicitDefEqProofs only [go_sem, evR, ints, rows, rat, rats]
      rw [List.take_of_length_le (by omega)]
theorem spec_l21Total_ok (g : Gm) (h : smallW g.w) : Pure Try.prog 191 [gameT g] (.i (totW g.w)) := by
  have hl := h.1
  refine fun_spec_l21Total (by simp) ?_
  simp -implicitDefEqProofs only [go_sem, evR, ints, rows, rat, rats, c_spec_l21Total, gameT, nodes]
  refine SemC.loopR (σ := Nat) (fun i => St.of [(1, .own 1), (3, .t (.i (totW (g.w.take i)))), (4, .t (.i i))] [(1, .box [nodes g.nd, rows g.w, rows g.v])]) (fun i => i ≤ g.w.length) (fun i => g.w.length - i) 0 (Weak.of _ _ [some 1] (by simp) (by simp) ?_ ?_) (by omega) fun i hi R hn hr he => ?_
  · simp -implicitDefEqProofs only [ints, rows, Nat.reduceBEq, wkR, Nat.reduceEqDiff, ↓reduceIte, wrR, List.take_zero, totW_nil, nodes]
  · exact ⟨⟨_, rfl, .refl _⟩, rfl, trivial⟩
  · rcases Nat.lt_or_ge i g.w.length with h9 | h9
    · obtain ⟨r, hx⟩ : ∃ r, g.w[i]? = some r := ⟨_, List.getElem?_eq_getElem h9⟩
      simp -implicitDefEqProofs only [go_sem, evR, ints, rows, rat, rats, nodes, hx, decide_eq_true (show (i : Int) < (g.w.length : Int) by omega)]
      refine ⟨by omega, by omega, by omega, ?_⟩
      refine CallW.pure (spec_l01Sum_ok r (smallW_row h (List.mem_of_getElem? hx))) [] rfl Try.call187 ?_ (by first | trivial | simp [T.noSh, T.noShL, rat]) rfl ?_
      · simp -implicitDefEqProofs only [agR, Nat.reduceLeDiff, Nat.reduceSub, vaR, go_sem, ints, rows, rat, rats, ratsO, rtR, intsO, rowsO]
      simp -implicitDefEqProofs only [go_sem, evR, ints, rows, rat, rats]
      have e := totW_snoc (g.w.take i) r
      rw [← take_snoc hx] at e
      have hb := totW_bound h (i + 1)
      refine hn _ (i + 1) (Weak.of _ _ [some 1] (by simp) (by simp) ?_ ?_) (by omega) (by omega)
      · simp -implicitDefEqProofs only [ints, rows, Nat.reduceBEq, wkR, Nat.reduceEqDiff, ↓reduceIte, wrR, nodes, next64 h9 (by omega), ← e, wrap64 (n := totW (g.w.take (i + 1))) (by omega) (by omega)]
      · exact ⟨⟨_, rfl, .refl _⟩, rfl, trivial⟩
    · simp -implicitDefEqProofs only [go_sem, evR, ints, rows, rat, rats, nodes, decide_eq_false (show ¬ (i : Int) < (g.w.length : Int) by omega)]
      refine he _ _ ?_
      simp -implicitDefEqProofs only [go_sem, evR, ints, rows, rat, rats]
      rw [List.take_of_length_le (by omega)]
theorem matK_iff {m : List (List Int)} {k : Nat} {lo hi : Int} : matK m k lo hi = true ↔ m.length = k ∧ ∀ r ∈ m, r.length = k ∧ ∀ x ∈ r, lo ≤ x ∧ x ≤ hi := by
  simp only [matK, Bool.and_eq_true, decide_eq_true_eq, List.all_eq_true]
theorem matK_bad {m : List (List Int)} {k : Nat} {lo hi : Int} (h : ¬ (m.length = k ∧ ∀ r ∈ m, r.length = k ∧ ∀ x ∈ r, lo ≤ x ∧ x ≤ hi)) : matK m k lo hi = false := by
  cases hc : matK m k lo hi with
  | false => rfl
  | true => exact absurd (matK_iff.1 hc) h
theorem spec_l21Matrix_ok (m : List (List Int)) (k : Nat) (lo hi : Int) (hm : m.length ≤ 9223372036854775807) (hk : k ≤ 6) : Pure Try.prog 195 [rows m, .i k, .i lo, .i hi] (.b (matK m k lo hi)) := by
  refine fun_spec_l21Matrix (by simp) ?_
  simp -implicitDefEqProofs only [go_sem, evR, ints, rows, rat, rats, c_spec_l21Matrix]
  refine SemC.loopR (σ := Nat) (fun i => St.of [(0, .t (rows m)), (1, .t (.i k)), (2, .t (.i lo)), (3, .t (.i hi)), (9, .t (.i i))] []) (fun i => i ≤ m.length ∧ ∀ j r, j < i → m[j]? = some r → r.length = k ∧ ∀ x ∈ r, lo ≤ x ∧ x ≤ hi) (fun i => m.length - i) 0 (Weak.of _ [] [] (by simp) (by simp) ?_ trivial) ⟨by omega, fun j r hj => by omega⟩ fun i hI R hn hr he => ?_
  · simp -implicitDefEqProofs only [ints, rows, Nat.reduceBEq, wkR, Nat.reduceEqDiff, ↓reduceIte, wrR]
  · obtain ⟨hi', hrows⟩ := hI
    rcases Nat.lt_or_ge i m.length with h9 | h9
    · obtain ⟨r, hx⟩ : ∃ r, m[i]? = some r := ⟨_, List.getElem?_eq_getElem h9⟩
      simp -implicitDefEqProofs only [go_sem, evR, ints, rows, rat, rats, hx, decide_eq_true (show (i : Int) < (m.length : Int) by omega)]
      refine ⟨by omega, by omega, by omega, fun h1 => hr _ ?_, fun h1 => ?_⟩
      · simp -implicitDefEqProofs only [go_sem, evR, ints, rows, rat, rats]
        rw [matK_bad fun h => by have := (h.2 r (List.mem_of_getElem? hx)).1; simp at h1; omega]
      · have h1 : r.length = k := by simp at h1; omega
        refine SemC.loopR (σ := Nat) (fun j => St.of [(0, .t (rows m)), (1, .t (.i k)), (2, .t (.i lo)), (3, .t (.i hi)), (9, .t (.i i)), (10, .t (.i j))] []) (fun j => j ≤ k ∧ ∀ t x, t < j → r[t]? = some x → lo ≤ x ∧ x ≤ hi) (fun j => k - j) 0 (Weak.of _ [] [] (by simp) (by simp) ?_ trivial) ⟨by omega, fun j x hj => by omega⟩ fun j hJ R2 hn2 hr2 he2 => ?_
        · simp -implicitDefEqProofs only [ints, rows, Nat.reduceBEq, wkR, Nat.reduceEqDiff, ↓reduceIte, wrR]
        · obtain ⟨hj, hels⟩ := hJ
          rcases Nat.lt_or_ge j k with h8 | h8
          · obtain ⟨x, hy⟩ : ∃ x, r[j]? = some x := ⟨_, List.getElem?_eq_getElem (by omega)⟩
            simp -implicitDefEqProofs only [go_sem, evR, ints, rows, rat, rats, hx, hy, decide_eq_true (show (j : Int) < (k : Int) by omega)]
            refine ⟨by omega, by omega, by omega, by omega, by omega, by omega, ?_⟩
            refine CallW.pure (spec_l01In_ok x lo hi) [] rfl Try.call148 ?_ (by first | trivial | simp [T.noSh, T.noShL, rat]) rfl ?_
            · simp -implicitDefEqProofs only [agR, Nat.reduceLeDiff, Nat.reduceSub, vaR, go_sem, ints, rows, rat, rats, ratsO, rtR, intsO, rowsO]
            simp -implicitDefEqProofs only [go_sem, evR, ints, rows, rat, rats]
            refine ⟨fun h2 => hr2 _ ?_, fun h2 => hn2 _ (j + 1) (Weak.of _ [] [] (by simp) (by simp) ?_ trivial) ⟨by omega, fun t y ht hyt => ?_⟩ (by omega)⟩
            · simp -implicitDefEqProofs only [go_sem, evR, ints, rows, rat, rats]
              refine hr _ ?_
              simp -implicitDefEqProofs only [go_sem, evR, ints, rows, rat, rats]
              rw [matK_bad fun h => by have := (h.2 r (List.mem_of_getElem? hx)).2 x (List.mem_of_getElem? hy); have := bnT h2; simp at this; omega]
            · simp -implicitDefEqProofs only [ints, rows, Nat.reduceBEq, wkR, Nat.reduceEqDiff, ↓reduceIte, wrR, next64 h8 (by omega)]
            · by_cases htj : t = j
              · subst htj; rw [hy] at hyt; cases hyt
                have := bnF h2
                simpa using this
              · exact hels t y (by omega) hyt
          · simp -implicitDefEqProofs only [go_sem, evR, ints, rows, rat, rats, decide_eq_false (show ¬ (j : Int) < (k : Int) by omega)]
            refine he2 _ _ ?_
            simp -implicitDefEqProofs only [go_sem, evR, ints, rows, rat, rats]
            refine hn _ (i + 1) (Weak.of _ [] [] (by simp) (by simp) ?_ trivial) ⟨by omega, fun t y ht hyt => ?_⟩ (by omega)
            · simp -implicitDefEqProofs only [ints, rows, Nat.reduceBEq, wkR, Nat.reduceEqDiff, ↓reduceIte, wrR, next63 h9 hm]
            · by_cases htj : t = i
              · subst htj; rw [hx] at hyt; cases hyt
                refine ⟨h1, fun z hz => ?_⟩
                obtain ⟨u, hu, rfl⟩ := List.mem_iff_getElem.1 hz
                exact hels u _ (by omega) (List.getElem?_eq_getElem hu)
              · exact hrows t y (by omega) hyt
    · simp -implicitDefEqProofs only [go_sem, evR, ints, rows, rat, rats, decide_eq_false (show ¬ (i : Int) < (m.length : Int) by omega)]
      refine he _ _ ?_
      simp -implicitDefEqProofs only [go_sem, evR, ints, rows, rat, rats]
      have hall : ∀ r ∈ m, r.length = k ∧ ∀ x ∈ r, lo ≤ x ∧ x ≤ hi := fun r hr => by
        obtain ⟨u, hu, rfl⟩ := List.mem_iff_getElem.1 hr
        exact hrows u _ (by omega) (List.getElem?_eq_getElem hu)
      by_cases hmk : m.length = k
      · rw [matK_iff.2 ⟨hmk, hall⟩, hmk]; simp [T.b]
      · rw [matK_bad fun h => hmk h.1]
        have e : ((m.length : Int) == (k : Int)) = false := by simp; omega
        rw [e]
theorem isGameB_tree {g : Gm} (h : isTreeB g.nd = false) : isGameB g = false := by rw [isGameB, h]; rfl
theorem spec_IsGame_ok (g : Gm) (hg : gameL g) : Pure Try.prog 139 [gameT g] (.b (isGameB g)) := by
  obtain ⟨hg1, hg2, hg3, hg4⟩ := hg
  have ht := spec_IsTree_ok g.nd hg1 hg2
  simp only [treeT, nodes] at ht
  refine fun_spec_IsGame (by simp) ?_
  simp -implicitDefEqProofs only [go_sem, evR, ints, rows, rat, rats, c_spec_IsGame, gameT, nodes]
  refine CallW.pure ht [] rfl Try.call194 ?_ (by first | trivial | simp [T.noSh, T.noShL, rat]) rfl ?_
  · simp -implicitDefEqProofs only [agR, Nat.reduceLeDiff, Nat.reduceSub, vaR, go_sem, ints, rows, rat, rats, ratsO, rtR, intsO, rowsO]
  simp -implicitDefEqProofs only [go_sem, evR, ints, rows, rat, rats]
  refine ⟨fun h1 => ?_, fun h1 => by rw [isGameB_tree (by simpa using h1)]⟩
  have h1 : isTreeB g.nd = true := by simpa using h1
  refine CallW.pure (spec_l01In_ok g.w.length 1 6) [] rfl Try.call148 ?_ (by first | trivial | simp [T.noSh, T.noShL, rat]) rfl ?_
  · simp -implicitDefEqProofs only [agR, Nat.reduceLeDiff, Nat.reduceSub, vaR, go_sem, ints, rows, rat, rats, ratsO, rtR, intsO, rowsO]
  simp -implicitDefEqProofs only [go_sem, evR, ints, rows, rat, rats]
  refine ⟨fun h2 h2' => ?_, fun h2 => ?_⟩
  rotate_left
  · have h2 : ¬ (1 ≤ g.w.length ∧ g.w.length ≤ 6) := by omega
    rw [isGameB, h1, decide_eq_false h2]; rfl
  have h2 : 1 ≤ g.w.length ∧ g.w.length ≤ 6 := by omega
  have hm1 := spec_l21Matrix_ok g.w g.w.length 0 9 hg3.1 h2.2
  have hm2 := spec_l21Matrix_ok g.v g.w.length (-1) 1 hg4.1 h2.2
  simp only [rows] at hm1 hm2
  refine CallW.pure hm1 [] rfl Try.call195 ?_ (by first | trivial | simp [T.noSh, T.noShL, rat]) rfl ?_
  · simp -implicitDefEqProofs only [agR, Nat.reduceLeDiff, Nat.reduceSub, vaR, go_sem, ints, rows, rat, rats, ratsO, rtR, intsO, rowsO]
  simp -implicitDefEqProofs only [go_sem, evR, ints, rows, rat, rats]
  refine ⟨fun h3 => ?_, fun h3 => ?_⟩
  rotate_left
  · have h3 : matK g.w g.w.length 0 9 = false := by simpa using h3
    rw [isGameB, h3]; simp
  have h3 : matK g.w g.w.length 0 9 = true := by simpa using h3
  refine CallW.pure hm2 [] rfl Try.call195 ?_ (by first | trivial | simp [T.noSh, T.noShL, rat]) rfl ?_
  · simp -implicitDefEqProofs only [agR, Nat.reduceLeDiff, Nat.reduceSub, vaR, go_sem, ints, rows, rat, rats, ratsO, rtR, intsO, rowsO]
  simp -implicitDefEqProofs only [go_sem, evR, ints, rows, rat, rats]
  refine ⟨fun h4 => ?_, fun h4 => ?_⟩
  rotate_left
  · have h4 : matK g.v g.w.length (-1) 1 = false := by simpa using h4
    rw [isGameB, h4]; simp
  have h4 : matK g.v g.w.length (-1) 1 = true := by simpa using h4
  have hw := spec_l21Total_ok g (smallW_of h3 h2.2)
  simp only [gameT, nodes, rows] at hw
  refine CallW.pure hw [] rfl Try.call191 ?_ (by first | trivial | simp [T.noSh, T.noShL, rat]) rfl ?_
  · simp -implicitDefEqProofs only [agR, Nat.reduceLeDiff, Nat.reduceSub, vaR, go_sem, ints, rows, rat, rats, ratsO, rtR, intsO, rowsO]
  simp -implicitDefEqProofs only [go_sem, evR, ints, rows, rat, rats]
  rw [isGameB, h1, decide_eq_true h2, h3, h4]; rfl
end
end Go.Ab

/- Contracts: valid games, the program's. -/
set_option linter.unusedSimpArgs false
set_option linter.unusedVariables false
namespace Go.Ab
open Go.Proofs

section
attribute [-go_sem] load1C
def rowK (k : Nat) (lo hi : Int) (r : List Int) : Prop := r.length = k ∧ (r.all fun x => decide (lo ≤ x ∧ x ≤ hi)) = true
theorem matK_rows {m : List (List Int)} {k : Nat} {lo hi : Int} (hm : m.length = k) (h : ∀ i r, i < k → m[i]? = some r → rowK k lo hi r) : matK m k lo hi = true := by
  refine matK_iff.2 ⟨hm, fun r hr => ?_⟩
  obtain ⟨u, hu, rfl⟩ := List.mem_iff_getElem.1 hr
  obtain ⟨h1, h2⟩ := h u _ (by omega) (List.getElem?_eq_getElem hu)
  refine ⟨h1, fun x hx => ?_⟩
  rw [List.all_eq_true] at h2
  simpa using h2 x hx
theorem matK_row {m : List (List Int)} {k : Nat} {lo hi : Int} (h : matK m k lo hi = true) {i : Nat} {r : List Int} (hr : m[i]? = some r) : rowK k lo hi r := by
  obtain ⟨h1, h2⟩ := matK_iff.1 h
  obtain ⟨h3, h4⟩ := h2 r (List.mem_of_getElem? hr)
  exact ⟨h3, List.all_eq_true.2 fun x hx => decide_eq_true (h4 x hx)⟩
theorem isGameB_parts {g : Gm} (h : isGameB g = true) : isTreeB g.nd = true ∧ (1 ≤ g.w.length ∧ g.w.length ≤ 6) ∧ matK g.w g.w.length 0 9 = true ∧ matK g.v g.w.length (-1) 1 = true ∧ 0 < totW g.w := by
  simp only [isGameB, Bool.and_eq_true, decide_eq_true_eq] at h
  exact ⟨h.1.1.1.1, h.1.1.1.2, h.1.1.2, h.1.2, h.2⟩
theorem isGameB_no {g : Gm} (h : isGameB g = true → False) : isGameB g = false := by
  cases hc : isGameB g with
  | false => rfl
  | true => exact (h hc).elim
theorem impl_IsGame_ok (g : Gm) (hg : gameL g) : Pure Try.prog 115 [gameT g] (.b (isGameB g)) := by
  obtain ⟨hg1, hg2, hg3, hg4⟩ := hg
  have ht := impl_IsTree_ok g.nd hg1 hg2
  simp only [treeT, nodes] at ht
  refine fun_impl_IsGame (by simp) ?_
  simp -implicitDefEqProofs only [go_sem, evR, ints, rows, rat, rats, c_impl_IsGame, gameT, nodes]
  refine CallW.pure ht [] rfl Try.call175 ?_ (by first | trivial | simp [T.noSh, T.noShL, rat]) rfl ?_
  · simp -implicitDefEqProofs only [agR, Nat.reduceLeDiff, Nat.reduceSub, vaR, go_sem, ints, rows, rat, rats, ratsO, rtR, intsO, rowsO]
  simp -implicitDefEqProofs only [go_sem, evR, ints, rows, rat, rats]
  refine ⟨fun h1 => ?_, fun h1 => ?_⟩
  rotate_left
  · rw [isGameB_no fun h => by have := (isGameB_parts h).1; rw [this] at h1; simp at h1]
  have h1 : isTreeB g.nd = true := by simpa using h1
  refine CallW.pure (impl_within_ok g.w.length 1 6) [] rfl Try.call110 ?_ (by first | trivial | simp [T.noSh, T.noShL, rat]) rfl ?_
  · simp -implicitDefEqProofs only [agR, Nat.reduceLeDiff, Nat.reduceSub, vaR, go_sem, ints, rows, rat, rats, ratsO, rtR, intsO, rowsO]
  simp -implicitDefEqProofs only [go_sem, evR, ints, rows, rat, rats]
  refine ⟨fun h2 => ⟨fun h3 => ?_, fun h3 => ?_⟩, fun h2 => ?_⟩
  · rw [isGameB_no fun h => by have := (isGameB_parts h).2.2.2.1; have := (matK_iff.1 this).1; simp at h3; omega]
  rotate_left
  · rw [isGameB_no fun h => by have := (isGameB_parts h).2.1; have := bnT h2; simp at this; omega]
  have h2 : 1 ≤ g.w.length ∧ g.w.length ≤ 6 := by have := bnF h2; simp only [decide_eq_true_eq] at this; omega
  have h3 : g.v.length = g.w.length := by simp at h3; omega
  refine SemC.loopR (σ := Nat) (fun i => St.of [(1, .own 1), (3, .t (.i g.w.length)), (24, .t (.i g.w.length)), (25, .t (.i i))] [(1, .box [nodes g.nd, rows g.w, rows g.v])]) (fun i => i ≤ g.w.length ∧ (∀ j r, j < i → g.w[j]? = some r → rowK g.w.length 0 9 r) ∧ ∀ j r, j < i → g.v[j]? = some r → rowK g.w.length (-1) 1 r) (fun i => g.w.length - i) 0 (Weak.of _ _ [some 1] (by simp) (by simp) ?_ ?_) ⟨by omega, fun j r hj => by omega, fun j r hj => by omega⟩ fun i hI R hn hr he => ?_
  · simp -implicitDefEqProofs only [ints, rows, Nat.reduceBEq, wkR, Nat.reduceEqDiff, ↓reduceIte, wrR, nodes]
  · exact ⟨⟨_, rfl, .refl _⟩, rfl, trivial⟩
  · obtain ⟨hi, hw, hv⟩ := hI
    rcases Nat.lt_or_ge i g.w.length with h9 | h9
    · obtain ⟨r, hx⟩ : ∃ r, g.w[i]? = some r := ⟨_, List.getElem?_eq_getElem h9⟩
      obtain ⟨q, hy⟩ : ∃ q, g.v[i]? = some q := ⟨_, List.getElem?_eq_getElem (by omega)⟩
      have hbw : ¬ rowK g.w.length 0 9 r → isGameB g = false := fun hc => isGameB_no fun h => hc (matK_row (isGameB_parts h).2.2.1 hx)
      have hbv : ¬ rowK g.w.length (-1) 1 q → isGameB g = false := fun hc => isGameB_no fun h => hc (matK_row (isGameB_parts h).2.2.2.1 hy)
      simp -implicitDefEqProofs only [go_sem, evR, ints, rows, rat, rats, nodes, hx, hy, decide_eq_true (show (i : Int) < (g.w.length : Int) by omega)]
      refine ⟨by omega, by omega, by omega, fun h4 => ⟨by omega, by omega, by omega, ?_⟩, fun h4 => hr _ ?_⟩
      rotate_left
      · simp -implicitDefEqProofs only [go_sem, evR, ints, rows, rat, rats]
        rw [hbw fun h => by have := h.1; simp at h4; omega]
      have h4 : r.length = g.w.length := by simp at h4; omega
      refine ⟨fun h5 => ⟨by omega, by omega, by omega, ?_⟩, fun h5 => hr _ ?_⟩
      rotate_left
      · simp -implicitDefEqProofs only [go_sem, evR, ints, rows, rat, rats]
        rw [hbv fun h => by have := h.1; simp at h5; omega]
      have h5 : q.length = g.w.length := by simp at h5; omega
      refine CallW.pure (impl_allWithin_ok r 0 9 (by omega)) [] rfl Try.call176 ?_ (by first | trivial | simp [T.noSh, T.noShL, rat]) rfl ?_
      · simp -implicitDefEqProofs only [agR, Nat.reduceLeDiff, Nat.reduceSub, vaR, go_sem, ints, rows, rat, rats, ratsO, rtR, intsO, rowsO]
      simp -implicitDefEqProofs only [go_sem, evR, ints, rows, rat, rats, hx, hy]
      refine ⟨fun h6 => ⟨by omega, by omega, by omega, ?_⟩, fun h6 => hr _ ?_⟩
      rotate_left
      · simp -implicitDefEqProofs only [go_sem, evR, ints, rows, rat, rats]
        rw [hbw fun h => by rw [h.2] at h6; simp at h6]
      have h6 : (r.all fun x => decide (0 ≤ x ∧ x ≤ 9)) = true := by simpa using h6
      refine CallW.pure (impl_allWithin_ok q (-1) 1 (by omega)) [] rfl Try.call176 ?_ (by first | trivial | simp [T.noSh, T.noShL, rat]) rfl ?_
      · simp -implicitDefEqProofs only [agR, Nat.reduceLeDiff, Nat.reduceSub, vaR, go_sem, ints, rows, rat, rats, ratsO, rtR, intsO, rowsO]
      simp -implicitDefEqProofs only [go_sem, evR, ints, rows, rat, rats]
      refine ⟨fun h7 => hr _ ?_, fun h7 => hn _ (i + 1) (Weak.of _ _ [some 1] (by simp) (by simp) ?_ ?_) ⟨by omega, fun j r' hj hr' => ?_, fun j r' hj hr' => ?_⟩ (by omega)⟩
      · simp -implicitDefEqProofs only [go_sem, evR, ints, rows, rat, rats]
        rw [hbv fun h => by rw [h.2] at h7; simp at h7]
      · simp -implicitDefEqProofs only [ints, rows, Nat.reduceBEq, wkR, Nat.reduceEqDiff, ↓reduceIte, wrR, nodes, next64 h9 (by omega)]
      · exact ⟨⟨_, rfl, .refl _⟩, rfl, trivial⟩
      · by_cases hji : j = i
        · subst hji; rw [hx] at hr'; cases hr'; exact ⟨h4, h6⟩
        · exact hw j r' (by omega) hr'
      · by_cases hji : j = i
        · subst hji; rw [hy] at hr'; cases hr'; exact ⟨h5, bnF h7⟩
        · exact hv j r' (by omega) hr'
    · simp -implicitDefEqProofs only [go_sem, evR, ints, rows, rat, rats, nodes, decide_eq_false (show ¬ (i : Int) < (g.w.length : Int) by omega)]
      refine he _ _ ?_
      simp -implicitDefEqProofs only [go_sem, evR, ints, rows, rat, rats]
      have hmw : matK g.w g.w.length 0 9 = true := matK_rows rfl fun j r hj hr => hw j r (by omega) hr
      have hmv : matK g.v g.w.length (-1) 1 = true := matK_rows h3 fun j r hj hr => hv j r (by omega) hr
      have hW := impl_totalWeight_ok g (smallW_of hmw h2.2)
      simp only [gameT, nodes, rows] at hW
      refine CallW.pure hW [] rfl Try.call177 ?_ (by first | trivial | simp [T.noSh, T.noShL, rat]) rfl ?_
      · simp -implicitDefEqProofs only [agR, Nat.reduceLeDiff, Nat.reduceSub, vaR, go_sem, ints, rows, rat, rats, ratsO, rtR, intsO, rowsO]
      simp -implicitDefEqProofs only [go_sem, evR, ints, rows, rat, rats]
      rw [isGameB, h1, decide_eq_true h2, hmw, hmv]; rfl
end
end Go.Ab

/- Contracts: the nodes of a player; information sets. -/
set_option linter.unusedSimpArgs false
set_option linter.unusedVariables false
namespace Go.Ab
open Go.Proofs

theorem idxs_at {l : List Nd} {i : Nat} {x : Nd} (h : l[i]? = some x) (pl : Int) : idxs l pl (i + 1) = if x.p = pl then idxs l pl i ++ [(i : Int)] else idxs l pl i := by
  rw [idxs_succ, List.getD_eq_getElem?_getD, h]; rfl
theorem idxs_length (l : List Nd) (pl : Int) (n : Nat) : (idxs l pl n).length ≤ n := by
  unfold idxs
  rw [List.length_map]
  have := List.length_filter_le (fun i => decide ((l.getD i nd0).p = pl)) (List.range n)
  simpa using this
section
attribute [-go_sem] load1C
set_option maxRecDepth 20000 in
theorem spec_l20Of_ok (l : List Nd) (pl : Int) (hl : l.length ≤ 1000000000000) : Fun Try.prog 220 [] [.t (treeT l), .t (.i pl)] fun o r => o = [] ∧ r = intsO (idxs l pl l.length) := by
  refine fun_spec_l20Of (by simp) ?_
  simp -implicitDefEqProofs only [go_sem, evR, ints, rows, rat, rats, c_spec_l20Of, treeT, nodes]
  refine SemC.loopR (σ := Nat) (fun i => St.of [(1, .t (.i pl)), (2, .own 2), (5, .own 77), (6, .t (.i i))] [(2, .box [nodes l]), (77, .arr 1 ((idxs l pl i).map T.i))]) (fun i => i ≤ l.length) (fun i => l.length - i) 0 (Weak.of _ _ [some 2, some 7] (by simp) (by simp) ?_ ?_) (by omega) fun i hi R hn hr he => ?_
  · simp -implicitDefEqProofs only [ints, rows, Nat.reduceBEq, wkR, Nat.reduceEqDiff, ↓reduceIte, wrR, nodes]
  · exact ⟨⟨_, rfl, .refl _⟩, rfl, ⟨_, rfl, .refl _⟩, rfl, trivial⟩
  · rcases Nat.lt_or_ge i l.length with h9 | h9
    · obtain ⟨x, hx⟩ : ∃ x, l[i]? = some x := ⟨_, List.getElem?_eq_getElem h9⟩
      have hil := idxs_length l pl i
      simp -implicitDefEqProofs only [go_sem, evR, ints, rows, rat, rats, nodes, nd_get0 hx, decide_eq_true (show (i : Int) < (l.length : Int) by omega)]
      refine ⟨by omega, by rw [nd_len]; omega, by rw [nd_len]; omega, fun h1 => ⟨by omega, ?_⟩, fun h1 => ?_⟩
      · have h1 : x.p = pl := by simpa using h1
        refine hn _ (i + 1) (Weak.of _ _ [some 2, some 26] (by simp) (by simp) ?_ ?_) (by omega) (by omega)
        · simp -implicitDefEqProofs only [ints, rows, Nat.reduceBEq, wkR, Nat.reduceEqDiff, ↓reduceIte, wrR, nodes, next64 h9 hl]
        · refine ⟨⟨_, rfl, .refl _⟩, rfl, ⟨_, rfl, ?_⟩, rfl, trivial⟩
          rw [idxs_at hx, if_pos h1, List.map_append]; exact .refl _
      · have h1 : ¬ x.p = pl := by simpa using h1
        refine hn _ (i + 1) (Weak.of _ _ [some 2, some 77] (by simp) (by simp) ?_ ?_) (by omega) (by omega)
        · simp -implicitDefEqProofs only [ints, rows, Nat.reduceBEq, wkR, Nat.reduceEqDiff, ↓reduceIte, wrR, nodes, next64 h9 hl]
        · refine ⟨⟨_, rfl, .refl _⟩, rfl, ⟨_, rfl, ?_⟩, rfl, trivial⟩
          rw [idxs_at hx, if_neg h1]; exact .refl _
    · simp -implicitDefEqProofs only [go_sem, evR, ints, rows, rat, rats, nodes, decide_eq_false (show ¬ (i : Int) < (l.length : Int) by omega)]
      refine he _ _ ?_
      simp -implicitDefEqProofs only [go_sem, evR, ints, rows, rat, rats]
      rw [show i = l.length by omega]; rfl
set_option maxRecDepth 20000 in
theorem impl_nodesOf_ok (l : List Nd) (pl : Int) (hl : l.length ≤ 1000000000000) : Fun Try.prog 181 [] [.t (treeT l), .t (.i pl)] fun o r => o = [] ∧ r = intsO (idxs l pl l.length) := by
  refine fun_impl_nodesOf (by simp) ?_
  simp -implicitDefEqProofs only [go_sem, evR, ints, rows, rat, rats, c_impl_nodesOf, treeT, nodes]
  refine SemC.loopR (σ := Nat) (fun i => St.of [(1, .t (.i pl)), (5, .own 77), (9, .t (nodes l)), (10, .t (.i l.length)), (11, .t (.i i))] [(77, .arr 1 ((idxs l pl i).map T.i))]) (fun i => i ≤ l.length) (fun i => l.length - i) 0 (Weak.of _ _ [none] (by simp) (by simp) ?_ ?_) (by omega) fun i hi R hn hr he => ?_
  · simp -implicitDefEqProofs only [ints, rows, Nat.reduceBEq, wkR, Nat.reduceEqDiff, ↓reduceIte, wrR, nodes, nd_len]
  · exact ⟨⟨1, rfl⟩, trivial⟩
  · rcases Nat.lt_or_ge i l.length with h9 | h9
    · obtain ⟨x, hx⟩ : ∃ x, l[i]? = some x := ⟨_, List.getElem?_eq_getElem h9⟩
      have hil := idxs_length l pl i
      simp -implicitDefEqProofs only [go_sem, evR, ints, rows, rat, rats, nodes, nd_at hx, decide_eq_true (show (i : Int) < (l.length : Int) by omega)]
      refine ⟨by omega, by rw [nd_len]; omega, by rw [nd_len]; omega, fun h1 => ⟨by omega, ?_⟩, fun h1 => ?_⟩
      · have h1 : x.p = pl := by simpa using h1
        refine hn _ (i + 1) (Weak.of _ _ [some 23] (by simp) (by simp) ?_ ?_) (by omega) (by omega)
        · simp -implicitDefEqProofs only [ints, rows, Nat.reduceBEq, wkR, Nat.reduceEqDiff, ↓reduceIte, wrR, nodes, next64 h9 hl]
        · refine ⟨⟨_, rfl, ?_⟩, rfl, trivial⟩
          rw [idxs_at hx, if_pos h1, List.map_append]; exact .refl _
      · have h1 : ¬ x.p = pl := by simpa using h1
        refine hn _ (i + 1) (Weak.of _ _ [some 77] (by simp) (by simp) ?_ ?_) (by omega) (by omega)
        · simp -implicitDefEqProofs only [ints, rows, Nat.reduceBEq, wkR, Nat.reduceEqDiff, ↓reduceIte, wrR, nodes, next64 h9 hl]
        · refine ⟨⟨_, rfl, ?_⟩, rfl, trivial⟩
          rw [idxs_at hx, if_neg h1]; exact .refl _
    · simp -implicitDefEqProofs only [go_sem, evR, ints, rows, rat, rats, nodes, decide_eq_false (show ¬ (i : Int) < (l.length : Int) by omega)]
      refine he _ _ ?_
      simp -implicitDefEqProofs only [go_sem, evR, ints, rows, rat, rats]
      rw [show i = l.length by omega]; rfl
def setsP (ns : List Int) (k i c : Nat) : List (List Int) := setsOf (ns.take i) k ++ (List.range c).map fun a : Nat => [ns.getD i 0, (a : Int)]
theorem setsP_zero (ns : List Int) (k i : Nat) : setsP ns k i 0 = setsOf (ns.take i) k := by simp [setsP]
theorem setsP_snoc (ns : List Int) (k i c : Nat) : setsP ns k i (c + 1) = setsP ns k i c ++ [[ns.getD i 0, (c : Int)]] := by simp [setsP, List.range_succ]
theorem setsP_next {ns : List Int} {k i : Nat} {n : Int} (h : ns[i]? = some n) : setsP ns k i k = setsP ns k (i + 1) 0 := by
  rw [setsP_zero, take_snoc h, setsOf_snoc, setsP, List.getD_eq_getElem?_getD, h]; rfl
theorem setsP_length (ns : List Int) (k i c : Nat) : (setsP ns k i c).length ≤ ns.length * k + c := by
  rw [setsP, List.length_append, setsOf_length, List.length_map, List.length_range, List.length_take]
  have : Nat.min i ns.length * k ≤ ns.length * k := Nat.mul_le_mul_right _ (Nat.min_le_right _ _)
  have e : min i ns.length = Nat.min i ns.length := rfl
  rw [e]; omega
theorem setsP_all (ns : List Int) (k : Nat) : setsP ns k ns.length 0 = setsOf ns k := by rw [setsP_zero, List.take_length]
theorem spec_l20Of_t (l : List Nd) (pl : Int) (hl : l.length ≤ 1000000000000) : Fun Try.prog 220 [] [.t (.agg [.sh 5 (chunk nodeC l)]), .t (.i pl)] fun o r => o = [] ∧ r = intsO (idxs l pl l.length) := spec_l20Of_ok l pl hl
theorem impl_nodesOf_t (l : List Nd) (pl : Int) (hl : l.length ≤ 1000000000000) : Fun Try.prog 181 [] [.t (.agg [.sh 5 (chunk nodeC l)]), .t (.i pl)] fun o r => o = [] ∧ r = intsO (idxs l pl l.length) := impl_nodesOf_ok l pl hl
set_option maxRecDepth 20000 in
theorem spec_l21Sets_ok (g : Gm) (pl : Int) (hl : g.nd.length ≤ 60) (hk : g.w.length ≤ 6) : Fun Try.prog 186 [] [.t (gameT g), .t (.i pl)] fun o r => o = [] ∧ r = rowsO (sets g pl) := by
  refine fun_spec_l21Sets (by simp) ?_
  simp -implicitDefEqProofs only [go_sem, evR, ints, rows, rat, rats, c_spec_l21Sets, gameT, nodes]
  refine CallW.res (spec_l20Of_t g.nd pl (by omega)) [] rfl Try.call220 ?_ (.inl rfl) ?_
  · simp -implicitDefEqProofs only [agR, Nat.reduceLeDiff, Nat.reduceSub, vaR, go_sem, ints, rows, rat, rats, ratsO, rtR, intsO, rowsO]
  simp -implicitDefEqProofs only [clR, Nat.reduceLeDiff, go_sem, evR, rat]
  have hns := idxs_length g.nd pl g.nd.length
  have hsets : sets g pl = setsOf (idxs g.nd pl g.nd.length) g.w.length := rfl
  rw [hsets]
  generalize idxs g.nd pl g.nd.length = ns at hns ⊢
  refine SemC.loopR (σ := Nat) (fun i => St.of [(2, .own 2), (5, .own 12), (6, .own 77), (7, .t (.i i))] [(2, .box [nodes g.nd, rows g.w, rows g.v]), (12, intsO ns), (77, .arr 1 ((setsP ns g.w.length i 0).map intsO))]) (fun i => i ≤ ns.length) (fun i => ns.length - i) 0 (Weak.of _ _ [some 2, some 12, some 13] (by simp) (by simp) ?_ ?_) (by omega) fun i hi R hn hr he => ?_
  · simp -implicitDefEqProofs only [ints, rows, Nat.reduceBEq, wkR, Nat.reduceEqDiff, ↓reduceIte, wrR, nodes]
  · exact ⟨⟨_, rfl, .refl _⟩, rfl, ⟨_, rfl, .refl _⟩, rfl, ⟨_, rfl, .refl _⟩, rfl, trivial⟩
  · rcases Nat.lt_or_ge i ns.length with h9 | h9
    · obtain ⟨n, hx⟩ : ∃ n, ns[i]? = some n := ⟨_, List.getElem?_eq_getElem h9⟩
      simp -implicitDefEqProofs only [go_sem, evR, ints, rows, rat, rats, nodes, intsO, decide_eq_true (show (i : Int) < (ns.length : Int) by omega)]
      refine SemC.loopR (σ := Nat) (fun c => St.of [(2, .own 2), (5, .own 12), (6, .own 77), (7, .t (.i i)), (8, .t (.i c))] [(2, .box [nodes g.nd, rows g.w, rows g.v]), (12, intsO ns), (77, .arr 1 ((setsP ns g.w.length i c).map intsO))]) (fun c => c ≤ g.w.length) (fun c => g.w.length - c) 0 (Weak.of _ _ [some 2, some 12, some 77] (by simp) (by simp) ?_ ?_) (by omega) fun c hc R2 hn2 hr2 he2 => ?_
      · simp -implicitDefEqProofs only [ints, rows, Nat.reduceBEq, wkR, Nat.reduceEqDiff, ↓reduceIte, wrR, nodes]
      · exact ⟨⟨_, rfl, .refl _⟩, rfl, ⟨_, rfl, .refl _⟩, rfl, ⟨_, rfl, .refl _⟩, rfl, trivial⟩
      · rcases Nat.lt_or_ge c g.w.length with h8 | h8
        · have hil := setsP_length ns g.w.length i c
          simp -implicitDefEqProofs only [go_sem, evR, ints, rows, rat, rats, nodes, intsO, hx, decide_eq_true (show (c : Int) < (g.w.length : Int) by omega)]
          have hmul : ns.length * g.w.length ≤ 60 * 6 := Nat.mul_le_mul (by omega) hk
          refine ⟨by omega, by omega, by omega, by omega, hn2 _ (c + 1) (Weak.of _ _ [some 2, some 12, some 35] (by simp) (by simp) ?_ ?_) (by omega) (by omega)⟩
          · simp -implicitDefEqProofs only [ints, rows, Nat.reduceBEq, wkR, Nat.reduceEqDiff, ↓reduceIte, wrR, nodes, next64 h8 (by omega)]
          · refine ⟨⟨_, rfl, .refl _⟩, rfl, ⟨_, rfl, .refl _⟩, rfl, ⟨_, rfl, ?_⟩, rfl, trivial⟩
            rw [setsP_snoc, List.map_append, List.getD_eq_getElem?_getD, hx]; exact .refl _
        · simp -implicitDefEqProofs only [go_sem, evR, ints, rows, rat, rats, nodes, decide_eq_false (show ¬ (c : Int) < (g.w.length : Int) by omega)]
          refine he2 _ _ ?_
          simp -implicitDefEqProofs only [go_sem, evR, ints, rows, rat, rats]
          refine hn _ (i + 1) (Weak.of _ _ [some 2, some 12, some 77] (by simp) (by simp) ?_ ?_) (by omega) (by omega)
          · simp -implicitDefEqProofs only [ints, rows, Nat.reduceBEq, wkR, Nat.reduceEqDiff, ↓reduceIte, wrR, nodes, next64 h9 (by omega)]
          · refine ⟨⟨_, rfl, .refl _⟩, rfl, ⟨_, rfl, .refl _⟩, rfl, ⟨_, rfl, ?_⟩, rfl, trivial⟩
            rw [show c = g.w.length by omega, setsP_next hx]; exact .refl _
    · simp -implicitDefEqProofs only [go_sem, evR, ints, rows, rat, rats, nodes, intsO, decide_eq_false (show ¬ (i : Int) < (ns.length : Int) by omega)]
      refine he _ _ ?_
      simp -implicitDefEqProofs only [go_sem, evR, ints, rows, rat, rats]
      rw [show i = ns.length by omega, setsP_all]; rfl
set_option maxRecDepth 20000 in
theorem impl_infoSets_ok (g : Gm) (pl : Int) (hl : g.nd.length ≤ 60) (hk : g.w.length ≤ 6) : Fun Try.prog 152 [] [.t (gameT g), .t (.i pl)] fun o r => o = [] ∧ r = rowsO (sets g pl) := by
  refine fun_impl_infoSets (by simp) ?_
  simp -implicitDefEqProofs only [go_sem, evR, ints, rows, rat, rats, c_impl_infoSets, gameT, nodes]
  refine CallW.res (impl_nodesOf_t g.nd pl (by omega)) [] rfl Try.call181 ?_ (.inl rfl) ?_
  · simp -implicitDefEqProofs only [agR, Nat.reduceLeDiff, Nat.reduceSub, vaR, go_sem, ints, rows, rat, rats, ratsO, rtR, intsO, rowsO]
  simp -implicitDefEqProofs only [clR, Nat.reduceLeDiff, go_sem, evR, rat, intsO]
  have hns := idxs_length g.nd pl g.nd.length
  have hsets : sets g pl = setsOf (idxs g.nd pl g.nd.length) g.w.length := rfl
  rw [hsets]
  generalize idxs g.nd pl g.nd.length = ns at hns ⊢
  refine SemC.loopR (σ := Nat) (fun i => St.of [(2, .own 2), (5, .own 77), (12, .own 12), (13, .t (.i ns.length)), (14, .t (.i i))] [(2, .box [nodes g.nd, rows g.w, rows g.v]), (12, intsO ns), (77, .arr 1 ((setsP ns g.w.length i 0).map intsO))]) (fun i => i ≤ ns.length) (fun i => ns.length - i) 0 (Weak.of _ _ [some 2, some 12, none] (by simp) (by simp) ?_ ?_) (by omega) fun i hi R hn hr he => ?_
  · simp -implicitDefEqProofs only [ints, rows, Nat.reduceBEq, wkR, Nat.reduceEqDiff, ↓reduceIte, wrR, nodes]
  · exact ⟨⟨_, rfl, .refl _⟩, rfl, ⟨_, rfl, .refl _⟩, rfl, ⟨1, rfl⟩, trivial⟩
  · rcases Nat.lt_or_ge i ns.length with h9 | h9
    · obtain ⟨n, hx⟩ : ∃ n, ns[i]? = some n := ⟨_, List.getElem?_eq_getElem h9⟩
      simp -implicitDefEqProofs only [go_sem, evR, ints, rows, rat, rats, nodes, intsO, hx, decide_eq_true (show (i : Int) < (ns.length : Int) by omega)]
      refine ⟨by omega, by omega, by omega, ?_⟩
      refine SemC.loopR (σ := Nat) (fun c => St.of [(2, .own 2), (5, .own 77), (7, .t (.i n)), (12, .own 12), (13, .t (.i ns.length)), (14, .t (.i i)), (20, .t (.i g.w.length)), (21, .t (.i c))] [(2, .box [nodes g.nd, rows g.w, rows g.v]), (12, intsO ns), (77, .arr 1 ((setsP ns g.w.length i c).map intsO))]) (fun c => c ≤ g.w.length) (fun c => g.w.length - c) 0 (Weak.of _ _ [some 2, some 12, some 77] (by simp) (by simp) ?_ ?_) (by omega) fun c hc R2 hn2 hr2 he2 => ?_
      · simp -implicitDefEqProofs only [ints, rows, Nat.reduceBEq, wkR, Nat.reduceEqDiff, ↓reduceIte, wrR, nodes]
      · exact ⟨⟨_, rfl, .refl _⟩, rfl, ⟨_, rfl, .refl _⟩, rfl, ⟨_, rfl, .refl _⟩, rfl, trivial⟩
      · rcases Nat.lt_or_ge c g.w.length with h8 | h8
        · have hil := setsP_length ns g.w.length i c
          simp -implicitDefEqProofs only [go_sem, evR, ints, rows, rat, rats, nodes, intsO, decide_eq_true (show (c : Int) < (g.w.length : Int) by omega)]
          have hmul : ns.length * g.w.length ≤ 60 * 6 := Nat.mul_le_mul (by omega) hk
          refine ⟨by omega, hn2 _ (c + 1) (Weak.of _ _ [some 2, some 12, some 29] (by simp) (by simp) ?_ ?_) (by omega) (by omega)⟩
          · simp -implicitDefEqProofs only [ints, rows, Nat.reduceBEq, wkR, Nat.reduceEqDiff, ↓reduceIte, wrR, nodes, next64 h8 (by omega)]
          · refine ⟨⟨_, rfl, .refl _⟩, rfl, ⟨_, rfl, .refl _⟩, rfl, ⟨_, rfl, ?_⟩, rfl, trivial⟩
            rw [setsP_snoc, List.map_append, List.getD_eq_getElem?_getD, hx]; exact .refl _
        · simp -implicitDefEqProofs only [go_sem, evR, ints, rows, rat, rats, nodes, decide_eq_false (show ¬ (c : Int) < (g.w.length : Int) by omega)]
          refine he2 _ _ ?_
          simp -implicitDefEqProofs only [go_sem, evR, ints, rows, rat, rats]
          refine hn _ (i + 1) (Weak.of _ _ [some 2, some 12, some 77] (by simp) (by simp) ?_ ?_) (by omega) (by omega)
          · simp -implicitDefEqProofs only [ints, rows, Nat.reduceBEq, wkR, Nat.reduceEqDiff, ↓reduceIte, wrR, nodes, next64 h9 (by omega)]
          · refine ⟨⟨_, rfl, .refl _⟩, rfl, ⟨_, rfl, .refl _⟩, rfl, ⟨_, rfl, ?_⟩, rfl, trivial⟩
            rw [show c = g.w.length by omega, setsP_next hx]; exact .refl _
    · simp -implicitDefEqProofs only [go_sem, evR, ints, rows, rat, rats, nodes, intsO, decide_eq_false (show ¬ (i : Int) < (ns.length : Int) by omega)]
      refine he _ _ ?_
      simp -implicitDefEqProofs only [go_sem, evR, ints, rows, rat, rats]
      rw [show i = ns.length by omega, setsP_all]; rfl
end
end Go.Ab

/- Contracts: valid strategies. -/
set_option linter.unusedSimpArgs false
set_option linter.unusedVariables false
namespace Go.Ab
open Go.Proofs

theorem set_elem {g : Gm} {pl : Int} {i : Nat} (h : i < (sets g pl).length) : ∃ (n c : Nat) (x : Nd), (sets g pl)[i]? = some [(n : Int), (c : Int)] ∧ g.nd[n]? = some x ∧ n < g.nd.length ∧ c < g.w.length ∧ x.p = pl ∧ sizeAt g pl i = x.ch.length := by
  have hg := List.getElem?_eq_getElem h
  obtain ⟨n0, hn0, c, hc, e⟩ := setsOf_mem (List.getElem_mem h)
  obtain ⟨n, rfl, hn, hp⟩ := idxs_mem hn0
  rw [e] at hg
  have hx : g.nd[n]? = some g.nd[n] := List.getElem?_eq_getElem hn
  have hd : g.nd.getD n nd0 = g.nd[n] := by rw [List.getD_eq_getElem?_getD, hx]; rfl
  refine ⟨n, c, g.nd[n], hg, hx, hn, hc, by rw [← hd]; exact hp, ?_⟩
  have e0 : (sets g pl).getD i [] = [(n : Int), (c : Int)] := by rw [List.getD_eq_getElem?_getD, hg]; rfl
  rw [sizeAt, e0, ← hd]; rfl
theorem isStratB_iff {g : Gm} {pl : Int} {pt : List (List Int)} : isStratB g pl pt = true ↔ pt.length = (sets g pl).length ∧ ∀ i, i < (sets g pl).length → partOK (sizeAt g pl i) (pt.getD i []) = true := by
  simp only [isStratB, Bool.and_eq_true, decide_eq_true_eq, List.all_eq_true, List.mem_range]
theorem partOK_iff {n : Nat} {l : List Int} : partOK n l = true ↔ l.length = n ∧ (l.all fun x => decide (0 ≤ x ∧ x ≤ 60)) = true ∧ l.sum = 60 := by
  simp only [partOK, Bool.and_eq_true, decide_eq_true_eq, sumI_eq, and_assoc]
theorem sets_len (g : Gm) (pl : Int) (hl : g.nd.length ≤ 60) (hk : g.w.length ≤ 6) : (sets g pl).length ≤ 360 := by
  rw [sets_length]
  have := idxs_length g.nd pl g.nd.length
  have : (idxs g.nd pl g.nd.length).length * g.w.length ≤ 60 * 6 := Nat.mul_le_mul (by omega) hk
  omega
theorem infoSets_t (g : Gm) (pl : Int) (hl : g.nd.length ≤ 60) (hk : g.w.length ≤ 6) : Fun Try.prog 152 [] [.t (.agg [.sh 5 (chunk nodeC g.nd), .sh 1 (g.w.map ints), .sh 1 (g.v.map ints)]), .t (.i pl)] fun o r => o = [] ∧ r = rowsO (sets g pl) := impl_infoSets_ok g pl hl hk
theorem l21Sets_t (g : Gm) (pl : Int) (hl : g.nd.length ≤ 60) (hk : g.w.length ≤ 6) : Fun Try.prog 186 [] [.t (.agg [.sh 5 (chunk nodeC g.nd), .sh 1 (g.w.map ints), .sh 1 (g.v.map ints)]), .t (.i pl)] fun o r => o = [] ∧ r = rowsO (sets g pl) := spec_l21Sets_ok g pl hl hk
section
attribute [-go_sem] load1C load1V fldC lenC idxC loadNV
end
end Go.Ab

/- Contracts: valid strategies, exported. -/
set_option linter.unusedSimpArgs false
set_option linter.unusedVariables false
namespace Go.Ab
open Go.Proofs

section
attribute [-go_sem] load1C load1V fldC lenC idxC loadNV
theorem isGame_t {f : FuncId} {g : Gm} {b : Bool} (h : Pure Try.prog f [gameT g] (.b b)) : Pure Try.prog f [.agg [.sh 5 (chunk nodeC g.nd), .sh 1 (g.w.map ints), .sh 1 (g.v.map ints)]] (.b b) := h
end
end Go.Ab

/- Contracts: payoffs, powers, units, places of sets. -/
set_option linter.unusedSimpArgs false
set_option linter.unusedVariables false
namespace Go.Ab
open Go.Proofs

theorem pay_eq {g : Gm} {i a b : Nat} {x : Nd} {r : List Int} {y : Int} (hx : g.nd[i]? = some x) (hr : g.v[a]? = some r) (hy : r[b]? = some y) : pay g i a b = if (if x.f = 0 then -1 else if x.f = 1 then 1 else y) = 1 then x.b else if (if x.f = 0 then -1 else if x.f = 1 then 1 else y) = -1 then -x.a else 0 := by
  have e1 : g.nd.getD i nd0 = x := by rw [List.getD_eq_getElem?_getD, hx]; rfl
  have e2 : (g.v.getD a []).getD b 0 = y := by rw [List.getD_eq_getElem?_getD, List.getD_eq_getElem?_getD, hr, Option.getD_some, hy]; rfl
  rw [pay, e1, e2]
theorem game_row {g : Gm} (hg : isGameB g = true) {a b : Nat} (ha : a < g.w.length) (hb : b < g.w.length) : ∃ r y, g.v[a]? = some r ∧ r[b]? = some y := by
  obtain ⟨h1, h2⟩ := matK_iff.1 (isGameB_parts hg).2.2.2.1
  have hx := List.getElem?_eq_getElem (show a < g.v.length by omega)
  have h3 := (h2 _ (List.getElem_mem (show a < g.v.length by omega))).1
  exact ⟨_, _, hx, List.getElem?_eq_getElem (by omega)⟩
theorem game_w {g : Gm} (hg : isGameB g = true) {a b : Nat} (ha : a < g.w.length) (hb : b < g.w.length) : ∃ r y, g.w[a]? = some r ∧ r[b]? = some y ∧ 0 ≤ y ∧ y ≤ 9 := by
  obtain ⟨h1, h2⟩ := matK_iff.1 (isGameB_parts hg).2.2.1
  have hx := List.getElem?_eq_getElem ha
  obtain ⟨h3, h4⟩ := h2 _ (List.getElem_mem ha)
  have hl : b < g.w[a].length := by omega
  exact ⟨_, _, hx, List.getElem?_eq_getElem hl, h4 _ (List.getElem_mem hl)⟩
theorem pw_le : ∀ {p q : Nat}, p ≤ q → pw p ≤ pw q := by
  intro p q h
  induction h with
  | refl => exact Int.le_refl _
  | step h ih => rw [pw_succ]; have := pw_pos (p := ‹Nat›); omega
section
attribute [-go_sem] load1C load1V fldC lenC idxC loadNV
set_option maxRecDepth 20000 in
theorem impl_payoffAt_ok (g : Gm) (hg : isGameB g = true) (i a b : Nat) (hi : i < g.nd.length) (ha : a < g.w.length) (hb : b < g.w.length) : Pure Try.prog 213 [gameT g, .i i, .i a, .i b] (.i (pay g i a b)) := by
  obtain ⟨p1, p2, p3, p4, p5⟩ := isGameB_parts hg
  obtain ⟨t1, t2, t3, t4⟩ := isTreeB_spec p1
  obtain ⟨x, hx⟩ : ∃ x, g.nd[i]? = some x := ⟨_, List.getElem?_eq_getElem hi⟩
  obtain ⟨r, y, hr, hy⟩ := game_row hg ha hb
  have hf := ndOK_fields (t2 _ _ hx)
  have hal := (List.getElem?_eq_some_iff.1 hr).1
  have hbl := (List.getElem?_eq_some_iff.1 hy).1
  rw [pay_eq hx hr hy]
  refine fun_impl_payoffAt (by simp) ?_
  simp -implicitDefEqProofs only [go_sem, evR, ints, rows, rat, rats, c_impl_payoffAt, gameT, nodes, nd_at hx, hr, hy]
  refine ⟨by omega, by rw [nd_len]; omega, by rw [nd_len]; omega, by omega, by omega, by omega, by omega, by omega, by omega, ?_⟩
  rw [wrap64 (n := 0 - x.a) (by omega) (by omega), Int.zero_sub]
  by_cases h0 : x.f = 0
  · simp [h0]
  · by_cases h1 : x.f = 1
    · simp [h1]
    · by_cases h2 : y = 1
      · simp [h0, h1, h2]
      · by_cases h3 : y = -1 <;> simp [h0, h1, h2, h3]
set_option maxRecDepth 20000 in
theorem spec_l21Payoff_ok (g : Gm) (hg : isGameB g = true) (i a b : Nat) (hi : i < g.nd.length) (ha : a < g.w.length) (hb : b < g.w.length) : Pure Try.prog 215 [gameT g, .i i, .i a, .i b] (.i (pay g i a b)) := by
  obtain ⟨p1, p2, p3, p4, p5⟩ := isGameB_parts hg
  obtain ⟨t1, t2, t3, t4⟩ := isTreeB_spec p1
  obtain ⟨x, hx⟩ : ∃ x, g.nd[i]? = some x := ⟨_, List.getElem?_eq_getElem hi⟩
  obtain ⟨r, y, hr, hy⟩ := game_row hg ha hb
  have hf := ndOK_fields (t2 _ _ hx)
  have hal := (List.getElem?_eq_some_iff.1 hr).1
  have hbl := (List.getElem?_eq_some_iff.1 hy).1
  rw [pay_eq hx hr hy]
  refine fun_spec_l21Payoff (by simp) ?_
  simp -implicitDefEqProofs only [go_sem, evR, ints, rows, rat, rats, c_spec_l21Payoff, gameT, nodes, nd_at hx, hr, hy]
  refine ⟨by omega, by rw [nd_len]; omega, by rw [nd_len]; omega, by omega, by omega, by omega, by omega, by omega, by omega, ?_⟩
  rw [wrap64 (n := 0 - x.a) (by omega) (by omega), Int.zero_sub]
  by_cases h0 : x.f = 0
  · simp [h0]
  · by_cases h1 : x.f = 1
    · simp [h1]
    · by_cases h2 : y = 1
      · simp [h0, h1, h2]
      · by_cases h3 : y = -1 <;> simp [h0, h1, h2, h3]
theorem impl_powerOf_ok (p : Nat) (hp : p ≤ 8) : Pure Try.prog 163 [.i 60, .i p] (.i (pw p)) := by
  refine fun_impl_powerOf (by simp) ?_
  simp -implicitDefEqProofs only [go_sem, evR, ints, rows, rat, rats, c_impl_powerOf]
  refine SemC.loopR (σ := Nat) (fun i => St.of [(0, .t (.i 60)), (5, .t (.i (pw i))), (6, .t (.i p)), (7, .t (.i i))] []) (fun i => i ≤ p) (fun i => p - i) 0 (Weak.of _ [] [] (by simp) (by simp) ?_ trivial) (by omega) fun i hi R hn hr he => ?_
  · simp -implicitDefEqProofs only [ints, rows, Nat.reduceBEq, wkR, Nat.reduceEqDiff, ↓reduceIte, wrR, show pw 0 = 1 from rfl]
  · rcases Nat.lt_or_ge i p with h9 | h9
    · simp -implicitDefEqProofs only [go_sem, evR, ints, rows, rat, rats, decide_eq_true (show (i : Int) < (p : Int) by omega)]
      have hb := pw_le (show i + 1 ≤ 8 by omega)
      have hb0 := pw_pos (p := i + 1)
      have hb8 : pw 8 = 167961600000000 := by decide
      have e : pw i * 60 = pw (i + 1) := by rw [pw_succ, Int.mul_comm]
      refine hn _ (i + 1) (Weak.of _ [] [] (by simp) (by simp) ?_ trivial) (by omega) (by omega)
      simp -implicitDefEqProofs only [ints, rows, Nat.reduceBEq, wkR, Nat.reduceEqDiff, ↓reduceIte, wrR, next64 h9 (by omega), e, wrap64 (n := pw (i + 1)) (by omega) (by omega)]
    · simp -implicitDefEqProofs only [go_sem, evR, ints, rows, rat, rats, decide_eq_false (show ¬ (i : Int) < (p : Int) by omega)]
      refine he _ _ ?_
      simp -implicitDefEqProofs only [go_sem, evR, ints, rows, rat, rats]
      rw [show i = p by omega]
theorem spec_l23Power_ok (p : Nat) (hp : p ≤ 8) : Pure Try.prog 157 [.i p] (.i (pw p)) := by
  refine fun_spec_l23Power (by simp) ?_
  simp -implicitDefEqProofs only [go_sem, evR, ints, rows, rat, rats, c_spec_l23Power]
  refine SemC.loopR (σ := Nat) (fun i => St.of [(0, .t (.i ((p - i : Nat) : Int))), (3, .t (.i (pw i)))] []) (fun i => i ≤ p) (fun i => p - i) 0 (Weak.of _ [] [] (by simp) (by simp) ?_ trivial) (by omega) fun i hi R hn hr he => ?_
  · simp -implicitDefEqProofs only [ints, rows, Nat.reduceBEq, wkR, Nat.reduceEqDiff, ↓reduceIte, wrR, show pw 0 = 1 from rfl, Nat.sub_zero]
  · rcases Nat.lt_or_ge i p with h9 | h9
    · simp -implicitDefEqProofs only [go_sem, evR, ints, rows, rat, rats, decide_eq_true (show ((p - i : Nat) : Int) > 0 by omega)]
      have hb := pw_le (show i + 1 ≤ 8 by omega)
      have hb0 := pw_pos (p := i + 1)
      have hb8 : pw 8 = 167961600000000 := by decide
      have e : pw i * 60 = pw (i + 1) := by rw [pw_succ, Int.mul_comm]
      refine hn _ (i + 1) (Weak.of _ [] [] (by simp) (by simp) ?_ trivial) (by omega) (by omega)
      simp -implicitDefEqProofs only [ints, rows, Nat.reduceBEq, wkR, Nat.reduceEqDiff, ↓reduceIte, wrR, e, wrap64 (n := pw (i + 1)) (by omega) (by omega), wrap64 (n := ((p - (i + 1) : Nat) : Int)) (by omega) (by omega), show ((p - i : Nat) : Int) - 1 = ((p - (i + 1) : Nat) : Int) by omega]
    · simp -implicitDefEqProofs only [go_sem, evR, ints, rows, rat, rats, decide_eq_false (show ¬ ((p - i : Nat) : Int) > 0 by omega)]
      refine he _ _ ?_
      simp -implicitDefEqProofs only [go_sem, evR, ints, rows, rat, rats]
      rw [show i = p by omega]
theorem dep_t {f : FuncId} {l : List Nd} {i n : Int} (h : Pure Try.prog f [treeT l, .i i] (.i n)) : Pure Try.prog f [.agg [.sh 5 (chunk nodeC l)], .i i] (.i n) := h
theorem game_unit {g : Gm} (hg : isGameB g = true) : smallW g.w ∧ dep g.nd g.nd.length 0 = (dpt g : Nat) ∧ dpt g ≤ 5 ∧ 0 ≤ totW g.w ∧ totW g.w ≤ 324 ∧ 1 ≤ pw (dpt g) ∧ pw (dpt g) ≤ 777600000 := by
  obtain ⟨p1, p2, p3, p4, p5⟩ := isGameB_parts hg
  obtain ⟨t1, t2, t3, t4⟩ := isTreeB_spec p1
  have hs := smallW_of p3 p2.2
  have hd0 := dep_nonneg (l := g.nd) g.nd.length 0
  have hd : dpt g ≤ 5 := by unfold dpt; omega
  have hb := totW_bound hs g.w.length
  rw [List.take_length] at hb
  have h1 := pw_le hd
  have h2 := pw_pos (p := dpt g)
  have h5 : pw 5 = 777600000 := by decide
  exact ⟨hs, by unfold dpt; omega, hd, hb.1, hb.2, by omega, by omega⟩
theorem idxs_before {l : List Nd} {pl : Int} {i n : Nat} (hi : i < n) (hp : (l.getD i nd0).p = pl) {j : Nat} {y : Int} (hj : j ≤ (idxs l pl i).length) (hy : (idxs l pl n)[j]? = some y) : (y = i ↔ j = (idxs l pl i).length) := by
  obtain ⟨rest, e⟩ := idxs_split l pl hp n hi
  rw [e] at hy
  rcases Nat.lt_or_ge j (idxs l pl i).length with h | h
  · rw [List.getElem?_append_left h] at hy
    obtain ⟨k, rfl, hk, _⟩ := idxs_mem (List.mem_of_getElem? hy)
    constructor
    · intro h1; omega
    · intro h1; omega
  · rw [List.getElem?_append_right h, show j - (idxs l pl i).length = 0 by omega] at hy
    have : (i : Int) = y := by simpa using hy
    constructor
    · intro; omega
    · intro; omega
theorem idxs_lt {l : List Nd} {pl : Int} {i n : Nat} (hi : i < n) (hp : (l.getD i nd0).p = pl) : (idxs l pl i).length < (idxs l pl n).length := by
  obtain ⟨rest, e⟩ := idxs_split l pl hp n hi
  rw [e]; simp
set_option maxRecDepth 20000 in
theorem spec_l23Set_ok (g : Gm) (hg : isGameB g = true) (pl : Int) (i c : Nat) (hi : i < g.nd.length) (hp : (g.nd.getD i nd0).p = pl) (hc : c < g.w.length) : Pure Try.prog 221 [gameT g, .i pl, .i i, .i c] (.i (setI g pl i c)) := by
  obtain ⟨p1, p2, p3, p4, p5⟩ := isGameB_parts hg
  obtain ⟨t1, t2, t3, t4⟩ := isTreeB_spec p1
  have hlt := idxs_lt hi hp
  have hbf : ∀ {j : Nat} {y : Int}, j ≤ (idxs g.nd pl i).length → (idxs g.nd pl g.nd.length)[j]? = some y → (y = i ↔ j = (idxs g.nd pl i).length) := fun hj hy => idxs_before hi hp hj hy
  have hlen := idxs_length g.nd pl g.nd.length
  refine fun_spec_l23Set (by simp) ?_
  simp -implicitDefEqProofs only [go_sem, evR, ints, rows, rat, rats, c_spec_l23Set, gameT, nodes]
  refine CallW.res (spec_l20Of_t g.nd pl (by omega)) [] rfl Try.call220 ?_ (.inl rfl) ?_
  · simp -implicitDefEqProofs only [agR, Nat.reduceLeDiff, Nat.reduceSub, vaR, go_sem, ints, rows, rat, rats, ratsO, rtR, intsO, rowsO]
  simp -implicitDefEqProofs only [clR, Nat.reduceLeDiff, go_sem, evR, rat, intsO]
  unfold setI
  generalize idxs g.nd pl g.nd.length = ns at hlt hbf hlen ⊢
  generalize hm : (idxs g.nd pl i).length = m at hlt hbf ⊢
  refine SemC.loopR (σ := Nat) (fun j => St.of [(2, .t (.i i)), (3, .t (.i c)), (4, .own 4), (9, .own 14), (10, .t (.i j))] [(4, .box [nodes g.nd, rows g.w, rows g.v]), (14, intsO ns)]) (fun j => j ≤ m) (fun j => m - j) 0 (Weak.of _ _ [some 4, some 14] (by simp) (by simp) ?_ ?_) (by omega) fun j hj R hn hr he => ?_
  · simp -implicitDefEqProofs only [ints, rows, Nat.reduceBEq, wkR, Nat.reduceEqDiff, ↓reduceIte, wrR, nodes]
  · exact ⟨⟨_, rfl, .refl _⟩, rfl, ⟨_, rfl, .refl _⟩, rfl, trivial⟩
  · obtain ⟨y, hy⟩ : ∃ y, ns[j]? = some y := ⟨_, List.getElem?_eq_getElem (by omega)⟩
    have hiff := hbf hj hy
    have hmul : j * g.w.length ≤ 60 * 6 := Nat.mul_le_mul (by omega) p2.2
    have hcast : (j : Int) * (g.w.length : Int) = ((j * g.w.length : Nat) : Int) := by rw [Int.natCast_mul]
    simp -implicitDefEqProofs only [go_sem, evR, ints, rows, rat, rats, nodes, intsO, hy, decide_eq_true (show (j : Int) < (ns.length : Int) by omega)]
    refine ⟨by omega, by omega, by omega, fun h1 => hr _ ?_, fun h1 => hn _ (j + 1) (Weak.of _ _ [some 4, some 14] (by simp) (by simp) ?_ ?_) ?_ ?_⟩
    · have h1 : j = m := hiff.1 (by simpa using h1)
      simp -implicitDefEqProofs only [go_sem, evR, ints, rows, rat, rats, hcast, wrap64 (n := ((j * g.w.length : Nat) : Int)) (by omega) (by omega), wrap64 (n := ((j * g.w.length : Nat) : Int) + (c : Int)) (by omega) (by omega)]
      rw [h1]; rfl
    · simp -implicitDefEqProofs only [ints, rows, Nat.reduceBEq, wkR, Nat.reduceEqDiff, ↓reduceIte, wrR, nodes, intsO, next64 (show j < ns.length by omega) (by omega)]
    · exact ⟨⟨_, rfl, .refl _⟩, rfl, ⟨_, rfl, .refl _⟩, rfl, trivial⟩
    · have h1 : ¬ j = m := fun h => by have := hiff.2 h; simp at h1; omega
      omega
    · have h1 : ¬ j = m := fun h => by have := hiff.2 h; simp at h1; omega
      omega
end
end Go.Ab

/- Contracts: HalvedWeights. -/
set_option linter.unusedSimpArgs false
set_option linter.unusedVariables false
namespace Go.Ab
open Go.Proofs

def mx0 (l : List Int) : Int := l.foldl max 0
def half (l : List Int) : List Int := l.map fun x => x / 2
def hvd : Nat → List Int → List Int
  | 0, l => l
  | f + 1, l => if mx0 l ≤ 1000000000 then l else hvd f (half l)

def W (f : Nat) : Int := ((2 ^ (29 + f) : Nat) : Int)
def hw (l : List Int) : List Int × Int := if 1 ≤ l.length ∧ l.length ≤ 4 ∧ ∀ x ∈ l, 0 ≤ x then (hvd 34 l, 0) else ([], 2)
end Go.Ab


/- Contracts: the turned matrix. -/
set_option linter.unusedSimpArgs false
set_option linter.unusedVariables false
namespace Go.Ab
open Go.Proofs

def colI (m : List (List Int)) (k i : Nat) : List Int := (m.take i).map fun r => r.getD k 0
def colOf (m : List (List Int)) (k : Nat) : List Int := m.map fun r => r.getD k 0
def tr (m : List (List Int)) (c : Nat) : List (List Int) := (List.range c).map (colOf m)
def rect (m : List (List Int)) (c : Nat) : Prop := ∀ r ∈ m, r.length = c
def tpart (m : List (List Int)) (c k i : Nat) : List (List Int) := (List.range c).map fun j => if j < k then colOf m j else if j = k then colI m j i else []
theorem tpart_length (m : List (List Int)) (c k i : Nat) : (tpart m c k i).length = c := by simp [tpart]
theorem tpart_get {m : List (List Int)} {c k i : Nat} (h : k < c) : (tpart m c k i)[k]? = some (colI m k i) := by simp [tpart, h]
theorem tpart_set {m : List (List Int)} {c k i : Nat} (h : k < c) {r : List Int} (hr : m[i]? = some r) : (tpart m c k i).set k (colI m k i ++ [r.getD k 0]) = tpart m c k (i + 1) := by
  refine List.ext_getElem? fun j => ?_
  rw [List.getElem?_set]
  by_cases hj : k = j
  · subst hj
    rw [if_pos rfl, if_pos (by rw [tpart_length]; exact h), tpart_get h, colI, colI, take_snoc hr]; simp
  · rw [if_neg hj]
    simp only [tpart, List.getElem?_map]
    by_cases hjc : j < c
    · rw [List.getElem?_range hjc]; simp only [Option.map_some, if_neg (Ne.symm hj)]
    · rw [List.getElem?_eq_none (by simpa using hjc)]; rfl
theorem tpart_zero (m : List (List Int)) (c : Nat) : tpart m c 0 0 = List.replicate c [] := by
  refine List.ext_getElem? fun j => ?_
  simp only [tpart, List.getElem?_map, List.getElem?_replicate]
  by_cases hjc : j < c
  · rw [List.getElem?_range hjc, if_pos hjc]; simp [colI]
  · rw [List.getElem?_eq_none (by simpa using hjc), if_neg hjc]; rfl
theorem tpart_next {m : List (List Int)} {c k : Nat} : tpart m c k m.length = tpart m c (k + 1) 0 := by
  refine List.map_congr_left fun j _ => ?_
  by_cases h1 : j < k
  · rw [if_pos h1, if_pos (by omega)]
  · by_cases h2 : j = k
    · rw [if_neg h1, if_pos h2, if_pos (by omega), colI, List.take_length]; rfl
    · rw [if_neg h1, if_neg h2, if_neg (by omega)]
      split
      · simp [colI]
      · rfl
theorem tpart_all (m : List (List Int)) (c : Nat) : tpart m c c 0 = tr m c := by
  refine List.map_congr_left fun j hj => ?_
  rw [if_pos (by simpa using hj)]

theorem le_nils (n : Nat) : Le (.arr 1 (List.replicate n (.v (.slice none 0 0)))) (.arr 1 ((List.replicate n ([] : List Int)).map intsO)) :=
  .arr 1 (by simp) fun i h h' => by simp [intsO]; exact .nilArr 1

theorem impl_turned_ok (m : List (List Int)) (c : Nat) (hm : m ≠ []) (hr : rect m c) (hml : m.length ≤ 1000000) (hcl : c ≤ 1000000) : Fun Try.prog 104 [] [.t (rows m)] fun o r => o = [] ∧ r = rowsO (tr m c) := by
  have hpos : 0 < m.length := List.length_pos_iff.2 hm
  refine fun_impl_turned (by simp) ?_
  simp -implicitDefEqProofs only [go_sem, evR, ints, rows, rat, rats, c_impl_turned]
  refine ⟨by omega, by omega, fun r0 h0 => ?_⟩
  have hc0 : r0.length = c := hr r0 (List.mem_of_getElem? h0)
  rw [hc0]
  refine ⟨by omega, by omega, ?_⟩
  refine SemC.loopR (σ := Nat) (fun k => St.of [(0, .t (rows m)), (3, .own 11), (13, .t (.i c)), (14, .t (.i k))] [(11, .arr 1 ((tpart m c k 0).map intsO))]) (fun k => k ≤ c) (fun k => c - k) 0 (Weak.of _ _ [some 11] (by simp) (by simp) ?_ ?_) (by simp) fun k hk R hn hr' he => ?_
  · simp -implicitDefEqProofs only [ints, rows, Nat.reduceBEq, wkR, Nat.reduceEqDiff, ↓reduceIte, wrR, made_one, List.length_replicate]
  · exact ⟨⟨_, rfl, by rw [made_one, tpart_zero]; exact le_nils _⟩, rfl, trivial⟩
  · simp -implicitDefEqProofs only [go_sem, evR, ints, rows, rat, rats]
    refine ⟨fun h => ?_, fun h => he _ _ ?_⟩
    · refine SemC.loopR (σ := Nat) (fun i => St.of [(0, .t (rows m)), (3, .own 11), (4, .t (.i k)), (13, .t (.i c)), (14, .t (.i k)), (17, .t (rows m)), (18, .t (.i m.length)), (19, .t (.i i))] [(11, .arr 1 ((tpart m c k i).map intsO))]) (fun i => i ≤ m.length) (fun i => m.length - i) 0 (Weak.of _ _ [some 11] (by simp) (by simp) ?_ ?_) (by simp) fun i hi R2 hn2 hr2 he2 => ?_
      · simp -implicitDefEqProofs only [ints, rows, Nat.reduceBEq, wkR, Nat.reduceEqDiff, ↓reduceIte, wrR]
      · exact ⟨⟨_, rfl, .refl _⟩, rfl, trivial⟩
      · have hlen := tpart_length m c k i
        simp -implicitDefEqProofs only [go_sem, evR, ints, rows, rat, rats, hlen, intsO]
        refine ⟨fun h1 => ⟨by omega, by omega, by omega, fun r hrow => ⟨by omega, by omega, by omega, fun q hq => ?_⟩⟩, fun h1 => he2 _ _ ?_⟩
        · have hkc : k < c := by omega
          rw [tpart_get hkc] at hq; cases hq
          have hrl := hr r (List.mem_of_getElem? hrow)
          refine ⟨by omega, by omega, by omega, fun x hx => ⟨?_, by omega, by omega, by omega, hn2 _ (i + 1) (Weak.of _ _ [some 11] (by simp) (by simp) ?_ ?_) (by omega) (by omega)⟩⟩
          · simp [colI]; omega
          · simp -implicitDefEqProofs only [ints, rows, Nat.reduceBEq, wkR, Nat.reduceEqDiff, ↓reduceIte, wrR, next64 (by omega : i < m.length) (by omega)]
          · refine ⟨⟨_, rfl, ?_⟩, rfl, trivial⟩
            have e := tpart_set hkc hrow
            have hxk : r.getD k 0 = x := by rw [List.getD_eq_getElem?_getD, hx]; rfl
            rw [hxk] at e
            rw [← e, List.map_set]
            simp only [intsO, List.map_append, List.map_cons, List.map_nil]
            exact .refl _
        · simp -implicitDefEqProofs only [go_sem, evR, ints, rows, rat, rats]
          have : i = m.length := by omega
          subst this
          refine hn _ (k + 1) (Weak.of _ _ [some 11] (by simp) (by simp) ?_ ?_) (by omega) (by omega)
          · simp -implicitDefEqProofs only [ints, rows, Nat.reduceBEq, wkR, Nat.reduceEqDiff, ↓reduceIte, wrR, next64 (by omega : k < c) (by omega)]
          · exact ⟨⟨_, rfl, by rw [tpart_next]; exact .refl _⟩, rfl, trivial⟩
    · simp -implicitDefEqProofs only [go_sem, evR, ints, rows, rat, rats]
      have : k = c := by omega
      subst this
      rw [tpart_all]; rfl
end Go.Ab

/- Contracts: saddle points. -/
set_option linter.unusedSimpArgs false
set_option linter.unusedVariables false
namespace Go.Ab
open Go.Proofs

def ent (m : List (List Int)) (i k : Nat) : Int := (m.getD i []).getD k 0
def sad (m : List (List Int)) (c i k : Nat) : Bool := ((List.range c).all fun j => decide (ent m i k ≤ ent m i j)) && ((List.range m.length).all fun j => decide (ent m j k ≤ ent m i k))
def saddle (m : List (List Int)) (c : Nat) : Int × Int × Int :=
  match ((List.range m.length).flatMap fun i => (List.range c).map fun k => (i, k)).find? fun p => sad m c p.1 p.2 with
  | some p => (p.1, p.2, 0)
  | none => (0, 0, 4)
def noSad (m : List (List Int)) (c i k : Nat) : Prop := (∀ i' k', i' < i → k' < c → sad m c i' k' = false) ∧ ∀ k', k' < k → sad m c i k' = false

theorem noSad_next {m : List (List Int)} {c i k : Nat} (h : noSad m c i k) (hs : sad m c i k = false) : noSad m c i (k + 1) :=
  ⟨h.1, fun k' hk' => by
    rcases Nat.lt_or_ge k' k with h' | h'
    · exact h.2 k' h'
    · rw [show k' = k by omega]; exact hs⟩
theorem noSad_row {m : List (List Int)} {c i : Nat} (h : noSad m c i c) : noSad m c (i + 1) 0 :=
  ⟨fun i' k' hi' hk' => by
    rcases Nat.lt_or_ge i' i with h' | h'
    · exact h.1 i' k' h' hk'
    · rw [show i' = i by omega]; exact h.2 k' hk', fun _ h' => by omega⟩

theorem range_split {n i : Nat} (h : i < n) : ∃ rest, List.range n = List.range i ++ i :: rest := by
  refine ⟨((List.range (n - i - 1)).map Nat.succ).map (i + ·), ?_⟩
  have h1 : List.range (i + (n - i)) = List.range i ++ (List.range (n - i)).map (i + ·) := List.range_add
  rw [show i + (n - i) = n by omega] at h1
  have h2 : List.range (n - i) = 0 :: (List.range (n - i - 1)).map Nat.succ := by rw [← List.range_succ_eq_map]; congr 1; omega
  rw [h1, h2]; rfl
theorem saddle_some {m : List (List Int)} {c i k : Nat} (hi : i < m.length) (hk : k < c) (h : noSad m c i k) (hs : sad m c i k = true) : saddle m c = ((i : Int), (k : Int), 0) := by
  have : ((List.range m.length).flatMap fun i => (List.range c).map fun k => (i, k)).find? (fun p => sad m c p.1 p.2) = some (i, k) := by
    rw [List.find?_eq_some_iff_append]
    obtain ⟨r1, h1⟩ := range_split hi
    obtain ⟨r2, h2⟩ := range_split hk
    refine ⟨hs, ((List.range i).flatMap fun i => (List.range c).map fun k => (i, k)) ++ (List.range k).map fun k => (i, k), r2.map (fun k => (i, k)) ++ r1.flatMap fun i => (List.range c).map fun k => (i, k), ?_, fun p hp => ?_⟩
    · rw [h1, List.flatMap_append, List.flatMap_cons]
      conv => lhs; rw [show (List.range c).map (fun k => (i, k)) = (List.range k).map (fun k => (i, k)) ++ (i, k) :: r2.map (fun k => (i, k)) by rw [h2]; simp]
      simp
    · rcases List.mem_append.1 hp with hp | hp
      · obtain ⟨i', hi', hp⟩ := List.mem_flatMap.1 hp
        obtain ⟨k', hk', rfl⟩ := List.mem_map.1 hp
        rw [h.1 i' k' (by simpa using hi') (by simpa using hk')]; rfl
      · obtain ⟨k', hk', rfl⟩ := List.mem_map.1 hp
        rw [h.2 k' (by simpa using hk')]; rfl
  rw [saddle, this]
theorem saddle_none {m : List (List Int)} {c : Nat} (h : ∀ i k, i < m.length → k < c → sad m c i k = false) : saddle m c = (0, 0, 4) := by
  have : ((List.range m.length).flatMap fun i => (List.range c).map fun k => (i, k)).find? (fun p => sad m c p.1 p.2) = none := by
    rw [List.find?_eq_none]
    intro p hp
    obtain ⟨i', hi', hp⟩ := List.mem_flatMap.1 hp
    obtain ⟨k', hk', rfl⟩ := List.mem_map.1 hp
    rw [h i' k' (by simpa using hi') (by simpa using hk')]; simp
  rw [saddle, this]
theorem ent_get {m : List (List Int)} {i k : Nat} {r : List Int} {x : Int} (h : m[i]? = some r) (h' : r[k]? = some x) : ent m i k = x := by
  simp only [ent, List.getD_eq_getElem?_getD, h, h', Option.getD_some]

end Go.Ab

/- Contracts: saddle points by lowest and highest numbers. -/
set_option linter.unusedSimpArgs false
set_option linter.unusedVariables false
namespace Go.Ab
open Go.Proofs

theorem foldl_min_spec : ∀ (l : List Int) (a : Int), (∀ y ∈ a :: l, l.foldl min a ≤ y) ∧ l.foldl min a ∈ a :: l
  | [], a => by simp
  | b :: l, a => by
    obtain ⟨h1, h2⟩ := foldl_min_spec l (min a b)
    refine ⟨fun y hy => ?_, ?_⟩
    · have h0 := h1 (min a b) (by simp)
      rcases List.mem_cons.1 hy with rfl | hy
      · simp only [List.foldl_cons]; omega
      · rcases List.mem_cons.1 hy with rfl | hy
        · simp only [List.foldl_cons]; omega
        · exact h1 y (List.mem_cons_of_mem _ hy)
    · simp only [List.foldl_cons]
      rcases List.mem_cons.1 h2 with h | h
      · rw [h]
        rcases Int.le_total a b with h' | h'
        · rw [Int.min_eq_left h']; simp
        · rw [Int.min_eq_right h']; simp
      · simp [h]
theorem foldl_max_spec : ∀ (l : List Int) (a : Int), (∀ y ∈ a :: l, y ≤ l.foldl max a) ∧ l.foldl max a ∈ a :: l
  | [], a => by simp
  | b :: l, a => by
    obtain ⟨h1, h2⟩ := foldl_max_spec l (max a b)
    refine ⟨fun y hy => ?_, ?_⟩
    · have h0 := h1 (max a b) (by simp)
      rcases List.mem_cons.1 hy with rfl | hy
      · simp only [List.foldl_cons]; omega
      · rcases List.mem_cons.1 hy with rfl | hy
        · simp only [List.foldl_cons]; omega
        · exact h1 y (List.mem_cons_of_mem _ hy)
    · simp only [List.foldl_cons]
      rcases List.mem_cons.1 h2 with h | h
      · rw [h]
        rcases Int.le_total a b with h' | h'
        · rw [Int.max_eq_right h']; simp
        · rw [Int.max_eq_left h']; simp
      · simp [h]
theorem minL_spec {l : List Int} (h : l ≠ []) : (∀ y ∈ l, minL l ≤ y) ∧ minL l ∈ l := by
  cases l with
  | nil => simp at h
  | cons a l => exact foldl_min_spec l a
theorem maxL_spec {l : List Int} (h : l ≠ []) : (∀ y ∈ l, y ≤ maxL l) ∧ maxL l ∈ l := by
  cases l with
  | nil => simp at h
  | cons a l => exact foldl_max_spec l a
theorem minL_iff {l : List Int} {x : Int} (hx : x ∈ l) : x = minL l ↔ ∀ y ∈ l, x ≤ y := by
  obtain ⟨h1, h2⟩ := minL_spec (List.ne_nil_of_mem hx)
  exact ⟨fun h y hy => h ▸ h1 y hy, fun h => Int.le_antisymm (h _ h2) (h1 _ hx)⟩
theorem maxL_iff {l : List Int} {x : Int} (hx : x ∈ l) : x = maxL l ↔ ∀ y ∈ l, y ≤ x := by
  obtain ⟨h1, h2⟩ := maxL_spec (List.ne_nil_of_mem hx)
  exact ⟨fun h y hy => h ▸ h1 y hy, fun h => Int.le_antisymm (h1 _ hx) (h _ h2)⟩
theorem sad_eq {m : List (List Int)} {c i k : Nat} {row : List Int} {x : Int} (hr : m[i]? = some row) (hl : row.length = c) (hx : row[k]? = some x) :
    sad m c i k = (decide (x = minL row) && decide (x = maxL (colOf m k))) := by
  have hxc : x ∈ colOf m k := List.mem_map.2 ⟨row, List.mem_of_getElem? hr, by rw [List.getD_eq_getElem?_getD, hx]; rfl⟩
  have hxe : ent m i k = x := ent_get hr hx
  rw [sad, hxe]
  congr 1
  · rw [Bool.eq_iff_iff, decide_eq_true_eq, minL_iff (List.mem_of_getElem? hx), List.all_eq_true]
    refine ⟨fun h y hy => ?_, fun h j hj => ?_⟩
    · obtain ⟨j, hj⟩ := List.mem_iff_getElem?.1 hy
      have := h j (by rw [List.mem_range, ← hl]; exact (List.getElem?_eq_some_iff.1 hj).1)
      rw [ent_get hr hj] at this; simpa using this
    · rw [List.mem_range, ← hl] at hj
      rw [ent_get hr (List.getElem?_eq_getElem hj)]
      simpa using h _ (List.getElem_mem hj)
  · rw [Bool.eq_iff_iff, decide_eq_true_eq, maxL_iff hxc, List.all_eq_true]
    refine ⟨fun h y hy => ?_, fun h j hj => ?_⟩
    · obtain ⟨r, hr', rfl⟩ := List.mem_map.1 hy
      obtain ⟨j, hj⟩ := List.mem_iff_getElem?.1 hr'
      have := h j (by rw [List.mem_range]; exact (List.getElem?_eq_some_iff.1 hj).1)
      simp only [ent, List.getD_eq_getElem?_getD, hj, Option.getD_some] at this
      simpa [List.getD_eq_getElem?_getD] using this
    · rw [List.mem_range] at hj
      have := h (m[j].getD k 0) (List.mem_map.2 ⟨m[j], List.getElem_mem hj, rfl⟩)
      simp only [ent, List.getD_eq_getElem?_getD, List.getElem?_eq_getElem hj, Option.getD_some]
      simpa [List.getD_eq_getElem?_getD] using this

end Go.Ab

/- The law FnExactSaddlePoint, as a contract. -/
set_option linter.unusedSimpArgs false
set_option linter.unusedVariables false
namespace Go.Ab
open Go.Proofs

end Go.Ab

/- Contracts: marks of lists of rows. -/
set_option linter.unusedSimpArgs false
set_option linter.unusedVariables false
namespace Go.Ab
open Go.Proofs

def tot : List (List Int) → Nat
  | [] => 0
  | r :: m => r.length + tot m
theorem tot_mem : ∀ {m : List (List Int)} {r : List Int}, r ∈ m → r.length ≤ tot m
  | r' :: m, r, h => by
    rcases List.mem_cons.1 h with rfl | h
    · simp [tot]
    · have := tot_mem h; simp only [tot]; omega

end Go.Ab

/- The law FnExactDominatedRows, as a contract. -/
set_option linter.unusedSimpArgs false
set_option linter.unusedVariables false
namespace Go.Ab
open Go.Proofs

theorem budgetRows_tot : ∀ {m : List (List Int)} {left : Int}, 0 ≤ left → 0 ≤ budgetRows m left → (tot m : Int) ≤ left
  | [], left, _, _ => by simp [tot]; assumption
  | x :: m, left, h0, h => by
    simp only [budgetRows] at h
    split at h
    · omega
    · have := budgetRows_tot (by omega) h
      simp only [tot]; omega
theorem budgetMat_tot {m : List (List Int)} {left : Int} (h0 : 0 ≤ left) (h : 0 ≤ budgetMat m left) : (tot m : Int) ≤ left := by
  simp only [budgetMat] at h
  split at h
  · omega
  · have := budgetRows_tot (by omega) h; omega
end Go.Ab

/- Contracts: games, strategies and claims as the laws copy, measure and compare them. -/
set_option linter.unusedSimpArgs false
set_option linter.unusedVariables false
namespace Go.Ab
open Go.Proofs

def nodeT (x : Nd) : T := .agg (nodeC x)
def gameO (g : Gm) : T := .agg [nodesO g.nd, rowsO g.w, rowsO g.v]
def stratO (s : Int × List (List Int)) : T := .agg [.i s.1, rowsO s.2]
def claimO (c : Cl) : T := .agg [.i c.f.1, rowsO c.f.2, .i c.s.1, rowsO c.s.2, .i c.lo, .i c.hi]
theorem nodesO_toSh (l : List Nd) : (nodesO l).toSh = nodes l := by
  show T.sh 5 (T.toShL (chunk nodeCO l)) = T.sh 5 (chunk nodeC l)
  congr 1
  induction l with
  | nil => rfl
  | cons x l ih =>
    rw [chunk_cons, chunk_cons, T.toShL_eq_map, List.map_append, ← T.toShL_eq_map (chunk nodeCO l), ih]
    congr 1
    show [T.i x.p, .i x.a, .i x.b, .i x.f, (intsO x.ch).toSh] = _
    rw [intsO_toSh]; rfl
theorem toShL_nodes (l : List Nd) : T.toShL (chunk nodeCO l) = chunk nodeC l := by
  have := nodesO_toSh l
  simpa [nodesO, nodes, T.toSh] using this
attribute [go_sem] toShL_nodes
def chs (l : List Nd) : List (List Int) := l.map Nd.ch
theorem nbudgetMat_le {m : List (List Int)} {left : Int} (h : -1 ≤ left) : -1 ≤ budgetMat m left ∧ (budgetMat m left ≤ left ∨ budgetMat m left = -1) := by
  have key : ∀ (m : List (List Int)) (left : Int), -1 ≤ left → -1 ≤ budgetRows m left ∧ (budgetRows m left ≤ left ∨ budgetRows m left = -1) := by
    intro m
    induction m with
    | nil => intro left h; exact ⟨h, .inl (Int.le_refl _)⟩
    | cons r m ih =>
      intro left h
      simp only [budgetRows]
      split
      · omega
      · have := ih (left - r.length) (by omega); omega
  unfold budgetMat
  split
  · omega
  · have := key m (left - m.length) (by omega); omega
section
attribute [-go_sem] load1C load1V fldC lenC idxC loadNV
theorem laws_szTreeNode_ok (x : Nd) (left : Int) (hl : x.ch.length ≤ 9223372036854775807) (h0 : -1 ≤ left) (h1 : left ≤ 1000000000000) : Pure Try.prog 201 [nodeT x, .i left] (.i (budget x.ch.length left)) := by
  refine fun_laws_szTreeNode (by simp) ?_
  simp -implicitDefEqProofs only [go_sem, evR, ints, rows, rat, rats, c_laws_szTreeNode, nodeT, nodeC]
  refine CallW.pure (laws_szInt64S_ok x.ch left (by omega) (by omega) (by omega)) [] rfl Try.call155 ?_ (by first | trivial | simp [T.noSh, T.noShL, rat]) rfl ?_
  · simp -implicitDefEqProofs only [agR, Nat.reduceLeDiff, Nat.reduceSub, vaR, go_sem, ints, rows, rat, rats, ratsO, rtR, intsO, rowsO]
  simp -implicitDefEqProofs only [go_sem, evR, ints, rows, rat, rats]
  refine ⟨fun h => ?_, fun h => trivial⟩
  rw [budget] at h ⊢
  split at h
  · rename_i h2; rw [if_pos h2]
  · omega
theorem szTreeNode_t (x : Nd) (left : Int) (hl : x.ch.length ≤ 9223372036854775807) (h0 : -1 ≤ left) (h1 : left ≤ 1000000000000) : Pure Try.prog 201 [.agg [.i x.p, .i x.a, .i x.b, .i x.f, .sh 1 (x.ch.map T.i)], .i left] (.i (budget x.ch.length left)) := laws_szTreeNode_ok x left hl h0 h1
theorem laws_szTreeNodeS_ok (l : List Nd) (left : Int) (hm : l.length ≤ 9223372036854775807) (hr : ∀ x ∈ l, x.ch.length ≤ 9223372036854775807) (h0 : -1 ≤ left) (h1 : left ≤ 1000000000000) :
    Pure Try.prog 154 [nodes l, .i left] (.i (budgetMat (chs l) left)) := by
  refine fun_laws_szTreeNodeS (by simp) ?_
  simp -implicitDefEqProofs only [go_sem, evR, ints, rows, rat, rats, c_laws_szTreeNodeS, nodes]
  have hcl : (chs l).length = l.length := by simp [chs]
  rw [wrap64 (by omega) (by omega)]
  refine ⟨fun h => ?_, fun h => ?_⟩
  · rw [budgetMat, if_pos (by rw [hcl]; exact h)]
  · refine SemC.loopR (σ := Nat × Int) (fun s => St.of [(0, .t (nodes l)), (1, .t (.i s.2)), (5, .t (.i s.1))] []) (fun s => s.1 ≤ l.length ∧ 0 ≤ s.2 ∧ s.2 ≤ left ∧ budgetRows ((chs l).drop s.1) s.2 = budgetMat (chs l) left) (fun s => l.length - s.1) (0, left - l.length) (Weak.of _ [] [] (by simp) (by simp) ?_ trivial) ⟨by simp, by simp only []; omega, by simp only []; omega, by rw [budgetMat, if_neg (by rw [hcl]; exact h), hcl]; rfl⟩ fun s hI R hn hr' he => ?_
    · simp -implicitDefEqProofs only [ints, rows, wkR, Nat.reduceEqDiff, ↓reduceIte, nodes]
    · obtain ⟨i, x⟩ := s
      (try simp only [] at hI)
      obtain ⟨i1, i2, i3, i4⟩ := hI
      rcases Nat.lt_or_ge i l.length with h9 | h9
      · obtain ⟨y, hy⟩ : ∃ y, l[i]? = some y := ⟨_, List.getElem?_eq_getElem h9⟩
        have hyl := hr y (List.mem_of_getElem? hy)
        have hc : (chs l)[i]? = some y.ch := by rw [chs, List.getElem?_map, hy]; rfl
        rw [drop_of_get hc, budgetRows] at i4
        simp -implicitDefEqProofs only [go_sem, evR, ints, rows, rat, rats, nodes, nd_at hy, decide_eq_true (show (i : Int) < (l.length : Int) by omega)]
        refine ⟨by omega, by rw [nd_len]; omega, by rw [nd_len]; omega, ?_⟩
        refine CallW.pure (szTreeNode_t y x hyl (by omega) (by omega)) [] rfl Try.call201 ?_ (by first | trivial | simp [T.noSh, T.noShL, rat]) rfl ?_
        · simp -implicitDefEqProofs only [agR, Nat.reduceLeDiff, Nat.reduceSub, vaR, go_sem, ints, rows, rat, rats, ratsO, rtR, intsO, rowsO]
        simp -implicitDefEqProofs only [go_sem, evR, ints, rows, rat, rats]
        refine ⟨fun h2 => hr' _ ?_, fun h2 => hn _ (i + 1, budget y.ch.length x) (Weak.of _ [] [] (by simp) (by simp) ?_ trivial) ?_ (by simp only []; omega)⟩
        · simp -implicitDefEqProofs only [go_sem, evR, ints, rows, rat, rats]
          simp only [budget] at h2
          split at h2
          · rename_i h3; rw [if_pos h3] at i4; rw [i4]
          · omega
        · simp -implicitDefEqProofs only [ints, rows, wkR, Nat.reduceEqDiff, ↓reduceIte, nodes, next64 h9 (by omega)]
        · simp only [budget] at h2 ⊢
          split at h2
          · omega
          · rename_i h3
            rw [if_neg h3] at i4 ⊢
            exact ⟨by omega, by omega, by omega, i4⟩
      · simp -implicitDefEqProofs only [go_sem, evR, ints, rows, rat, rats, nodes, decide_eq_false (show ¬ (i : Int) < (l.length : Int) by omega)]
        refine he _ _ ?_
        simp -implicitDefEqProofs only [go_sem, evR, ints, rows, rat, rats]
        rw [List.drop_of_length_le (by omega), budgetRows] at i4
        rw [i4]
theorem laws_szTree_ok (l : List Nd) (left : Int) (hm : l.length ≤ 9223372036854775807) (hr : ∀ x ∈ l, x.ch.length ≤ 9223372036854775807) (h0 : -1 ≤ left) (h1 : left ≤ 1000000000000) :
    Pure Try.prog 95 [treeT l, .i left] (.i (budgetMat (chs l) left)) := by
  refine fun_laws_szTree (by simp) ?_
  simp -implicitDefEqProofs only [go_sem, evR, ints, rows, rat, rats, c_laws_szTree, treeT, nodes]
  have hp := laws_szTreeNodeS_ok l left hm hr h0 h1
  simp only [nodes] at hp
  have hb := nbudgetMat_le (m := chs l) h0
  refine CallW.pure hp [] rfl Try.call154 ?_ (by first | trivial | simp [T.noSh, T.noShL, rat]) rfl ?_
  · simp -implicitDefEqProofs only [agR, Nat.reduceLeDiff, Nat.reduceSub, vaR, go_sem, ints, rows, rat, rats, ratsO, rtR, intsO, rowsO]
  simp -implicitDefEqProofs only [go_sem, evR, ints, rows, rat, rats]
  exact ⟨fun h => by rw [show budgetMat (chs l) left = -1 by omega], fun _ => trivial⟩
def budgetG (g : Gm) (left : Int) : Int :=
  if budgetMat (chs g.nd) left < 0 then -1 else if budgetMat g.w (budgetMat (chs g.nd) left) < 0 then -1 else budgetMat g.v (budgetMat g.w (budgetMat (chs g.nd) left))
theorem laws_szGame_ok (g : Gm) (left : Int) (hg : gameL g) (h0 : -1 ≤ left) (h1 : left ≤ 1000000000000) : Pure Try.prog 20 [gameT g, .i left] (.i (budgetG g left)) := by
  refine fun_laws_szGame (by simp) ?_
  simp -implicitDefEqProofs only [go_sem, evR, ints, rows, rat, rats, c_laws_szGame, gameT, nodes]
  have hp := laws_szTree_ok g.nd left hg.1 hg.2.1 h0 h1
  simp only [nodes, treeT] at hp
  have hb := nbudgetMat_le (m := chs g.nd) h0
  unfold budgetG
  refine CallW.pure hp [] rfl Try.call95 ?_ (by first | trivial | simp [T.noSh, T.noShL, rat]) rfl ?_
  · simp -implicitDefEqProofs only [agR, Nat.reduceLeDiff, Nat.reduceSub, vaR, go_sem, ints, rows, rat, rats, ratsO, rtR, intsO, rowsO]
  simp -implicitDefEqProofs only [go_sem, evR, ints, rows, rat, rats]
  refine ⟨fun h => by rw [if_pos h], fun h => ?_⟩
  rw [if_neg h]
  generalize budgetMat (chs g.nd) left = b at hb h ⊢
  have hb2 := nbudgetMat_le (m := g.w) hb.1
  refine CallW.pure (laws_szInt64SS_ok g.w b (by have := hg.2.2.1.1; omega) (fun r h => by have := hg.2.2.1.2 r h; omega) (by omega) (by omega)) [] rfl Try.call96 ?_ (by first | trivial | simp [T.noSh, T.noShL, rat]) rfl ?_
  · simp -implicitDefEqProofs only [agR, Nat.reduceLeDiff, Nat.reduceSub, vaR, go_sem, ints, rows, rat, rats, ratsO, rtR, intsO, rowsO]
  simp -implicitDefEqProofs only [go_sem, evR, ints, rows, rat, rats]
  refine ⟨fun h2 => by rw [if_pos h2], fun h2 => ?_⟩
  rw [if_neg h2]
  generalize budgetMat g.w b = b2 at hb2 h2 ⊢
  have hb3 := nbudgetMat_le (m := g.v) hb2.1
  refine CallW.pure (laws_szInt64SS_ok g.v b2 (by have := hg.2.2.2.1; omega) (fun r h => by have := hg.2.2.2.2 r h; omega) (by omega) (by omega)) [] rfl Try.call96 ?_ (by first | trivial | simp [T.noSh, T.noShL, rat]) rfl ?_
  · simp -implicitDefEqProofs only [agR, Nat.reduceLeDiff, Nat.reduceSub, vaR, go_sem, ints, rows, rat, rats, ratsO, rtR, intsO, rowsO]
  simp -implicitDefEqProofs only [go_sem, evR, ints, rows, rat, rats]
  exact ⟨fun h => by rw [show budgetMat g.v b2 = -1 by omega], fun _ => trivial⟩
end
end Go.Ab

/- Contracts: copies of games, strategies and claims, and when they are equal. -/
set_option linter.unusedSimpArgs false
set_option linter.unusedVariables false
namespace Go.Ab
open Go.Proofs

def nodeZ : List T := [.i 0, .i 0, .i 0, .i 0, .v (.slice none 0 0)]
def nfilled (l : List Nd) (i : Nat) : List T := chunk nodeCO (l.take i) ++ (List.replicate (l.length - i) nodeZ).flatten
theorem nfilled_length (l : List Nd) (i : Nat) (h : i ≤ l.length) : (nfilled l i).length = l.length * 5 := by
  have e : (List.replicate (l.length - i) nodeZ).flatten.length = (l.length - i) * 5 := by
    have key : ∀ n, (List.replicate n nodeZ).flatten.length = n * 5 := by
      intro n
      induction n with
      | zero => rfl
      | succ n ih => rw [List.replicate_succ, List.flatten_cons, List.length_append, ih, Nat.add_mul]; simp [nodeZ]; omega
    exact key _
  rw [nfilled, List.length_append, e, chunk_length nodeCO_len, List.length_take, Nat.min_eq_left h]; omega
theorem nfilled_zero (l : List Nd) : made nodeZ l.length = nfilled l 0 := by
  rw [nfilled, List.take_zero, chunk_nil, List.nil_append, Nat.sub_zero]
  show (List.range (l.length * 5)).map (fun i => nodeZ.getD (i % 5) .any) = _
  generalize l.length = n
  induction n with
  | zero => rfl
  | succ n ih =>
    rw [Nat.add_mul, Nat.one_mul, List.range_add, List.map_append, ih, List.map_map]
    rw [show n + 1 = n + 1 from rfl, List.replicate_succ', List.flatten_append]
    congr 1
    have : ∀ j, (n * 5 + j) % 5 = j % 5 := fun j => by omega
    show (List.range 5).map (fun j => nodeZ.getD ((n * 5 + j) % 5) .any) = _
    simp only [this]
    rfl
theorem nfilled_all (l : List Nd) : nfilled l l.length = chunk nodeCO l := by simp [nfilled]
theorem nfilled_set {l : List Nd} {i : Nat} {x : Nd} (h : l[i]? = some x) : (nfilled l i).take (i * 5) ++ nodeCO x ++ (nfilled l i).drop (i * 5 + 5) = nfilled l (i + 1) := by
  obtain ⟨hi, rfl⟩ := List.getElem?_eq_some_iff.1 h
  have e1 : (chunk nodeCO (l.take i)).length = i * 5 := by rw [chunk_length nodeCO_len, List.length_take, Nat.min_eq_left (by omega)]
  have e2 : l.length - i = (l.length - (i + 1)) + 1 := by omega
  rw [nfilled, e2, List.replicate_succ, List.flatten_cons, List.take_left' e1, show i * 5 + 5 = (chunk nodeCO (l.take i)).length + 5 by omega, List.drop_length_add_append]
  rw [show List.drop 5 (nodeZ ++ (List.replicate (l.length - (i + 1)) nodeZ).flatten) = (List.replicate (l.length - (i + 1)) nodeZ).flatten from rfl]
  rw [nfilled, take_snoc h, chunk_append]
  simp [chunk]
section
attribute [-go_sem] load1C load1V fldC lenC idxC loadNV
theorem laws_toTreeNode_ok (x : Nd) (hl : x.ch.length ≤ 1000000000000) : Fun Try.prog 204 [] [.t (nodeT x)] fun o r => o = [] ∧ r = .agg (nodeCO x) := by
  refine fun_laws_toTreeNode (by simp) ?_
  simp -implicitDefEqProofs only [go_sem, evR, ints, rows, rat, rats, c_laws_toTreeNode, nodeT, nodeC]
  refine CallW.res (laws_toInt64S_ok x.ch (by omega)) [] rfl Try.call161 ?_ (.inl rfl) ?_
  · simp -implicitDefEqProofs only [agR, Nat.reduceLeDiff, Nat.reduceSub, vaR, go_sem, ints, rows, rat, rats, ratsO, rtR, intsO, rowsO]
  simp -implicitDefEqProofs only [clR, Nat.reduceLeDiff, go_sem, evR, rat, intsO, opR, Nat.reduceBEq]
  rfl
theorem toTreeNode_t (x : Nd) (hl : x.ch.length ≤ 1000000000000) : Fun Try.prog 204 [] [.t (.agg [.i x.p, .i x.a, .i x.b, .i x.f, .sh 1 (x.ch.map T.i)])] fun o r => o = [] ∧ r = .agg [.i x.p, .i x.a, .i x.b, .i x.f, intsO x.ch] := laws_toTreeNode_ok x hl
set_option maxRecDepth 20000 in
theorem laws_toTreeNodeS_ok (l : List Nd) (hm : l.length ≤ 1000000000000) (hr : ∀ x ∈ l, x.ch.length ≤ 1000000000000) : Fun Try.prog 160 [] [.t (nodes l)] fun o r => o = [] ∧ r = nodesO l := by
  refine fun_laws_toTreeNodeS (by simp) ?_
  simp -implicitDefEqProofs only [go_sem, evR, ints, rows, rat, rats, c_laws_toTreeNodeS, nodes]
  refine ⟨by omega, by omega, ?_⟩
  refine SemC.loopR (σ := Nat) (fun i => St.of [(0, .t (nodes l)), (3, .own 7), (4, .t (.i i))] [(7, .arr 5 (nfilled l i))]) (fun i => i ≤ l.length) (fun i => l.length - i) 0 (Weak.of _ _ [some 7] (by simp) (by simp) ?_ ?_) (by simp) fun i hi R hn hr' he => ?_
  · simp -implicitDefEqProofs only [ints, rows, Nat.reduceBEq, wkR, Nat.reduceEqDiff, ↓reduceIte, wrR, nodes]
  · exact ⟨⟨_, rfl, by rw [← nfilled_zero]; exact .refl _⟩, rfl, trivial⟩
  · have hlen := nfilled_length l i hi
    rcases Nat.lt_or_ge i l.length with h9 | h9
    · obtain ⟨y, hy⟩ : ∃ y, l[i]? = some y := ⟨_, List.getElem?_eq_getElem h9⟩
      simp -implicitDefEqProofs only [go_sem, evR, ints, rows, rat, rats, nodes, nd_at hy, decide_eq_true (show (i : Int) < (l.length : Int) by omega)]
      refine ⟨by omega, by rw [nd_len]; omega, by rw [nd_len]; omega, ?_⟩
      refine CallW.res (toTreeNode_t y (hr y (List.mem_of_getElem? hy))) [] rfl Try.call204 ?_ (.inl rfl) ?_
      · simp -implicitDefEqProofs only [agR, Nat.reduceLeDiff, Nat.reduceSub, vaR, go_sem, ints, rows, rat, rats, ratsO, rtR, intsO, rowsO]
      simp -implicitDefEqProofs only [clR, Nat.reduceLeDiff, go_sem, evR, rat, intsO, hlen]
      refine ⟨by omega, by omega, by omega, hn _ (i + 1) (Weak.of _ _ [some 7] (by simp) (by simp) ?_ ?_) (by omega) (by omega)⟩
      · simp -implicitDefEqProofs only [ints, rows, Nat.reduceBEq, wkR, Nat.reduceEqDiff, ↓reduceIte, wrR, nodes, next64 h9 (by omega)]
      · refine ⟨⟨_, rfl, ?_⟩, rfl, trivial⟩
        have := nfilled_set hy
        simp only [nodeCO, intsO, List.append_assoc, List.cons_append, List.nil_append] at this
        (try simp only [List.append_assoc, List.cons_append, List.nil_append])
        rw [this]; exact .refl _
    · simp -implicitDefEqProofs only [go_sem, evR, ints, rows, rat, rats, nodes, decide_eq_false (show ¬ (i : Int) < (l.length : Int) by omega)]
      refine he _ _ ?_
      simp -implicitDefEqProofs only [go_sem, evR, ints, rows, rat, rats]
      rw [show i = l.length by omega, nfilled_all]; rfl
theorem laws_toTree_ok (l : List Nd) (hm : l.length ≤ 1000000000000) (hr : ∀ x ∈ l, x.ch.length ≤ 1000000000000) : Fun Try.prog 98 [] [.t (treeT l)] fun o r => o = [] ∧ r = .agg [nodesO l] := by
  refine fun_laws_toTree (by simp) ?_
  simp -implicitDefEqProofs only [go_sem, evR, ints, rows, rat, rats, c_laws_toTree, treeT, nodes]
  have hp := laws_toTreeNodeS_ok l hm hr
  simp only [nodes] at hp
  refine CallW.res hp [] rfl Try.call160 ?_ (.inl rfl) ?_
  · simp -implicitDefEqProofs only [agR, Nat.reduceLeDiff, Nat.reduceSub, vaR, go_sem, ints, rows, rat, rats, ratsO, rtR, intsO, rowsO]
  simp -implicitDefEqProofs only [clR, Nat.reduceLeDiff, go_sem, evR, rat, nodesO, opR, Nat.reduceBEq]
def rows12 (m : List (List Int)) : Prop := m.length ≤ 1000000000000 ∧ ∀ r ∈ m, r.length ≤ 1000000000000
def game12 (g : Gm) : Prop := g.nd.length ≤ 1000000000000 ∧ (∀ x ∈ g.nd, x.ch.length ≤ 1000000000000) ∧ rows12 g.w ∧ rows12 g.v
theorem rows12_to {m : List (List Int)} (h : rows12 m) : ((m.length : Int) ≤ 1000000000000) ∧ ∀ r ∈ m, (r.length : Int) ≤ 1000000000000 := ⟨by have := h.1; omega, fun r hr => by have := h.2 r hr; omega⟩
set_option maxRecDepth 20000 in
theorem laws_toGame_ok (g : Gm) (hg : game12 g) : Fun Try.prog 22 [] [.t (gameT g)] fun o r => o = [] ∧ r = gameO g := by
  refine fun_laws_toGame (by simp) ?_
  simp -implicitDefEqProofs only [go_sem, evR, ints, rows, rat, rats, c_laws_toGame, gameT, nodes]
  have hp := laws_toTree_ok g.nd hg.1 hg.2.1
  simp only [treeT, nodes] at hp
  refine CallW.res hp [] rfl Try.call98 ?_ (.inl rfl) ?_
  · simp -implicitDefEqProofs only [agR, Nat.reduceLeDiff, Nat.reduceSub, vaR, go_sem, ints, rows, rat, rats, ratsO, rtR, intsO, rowsO]
  simp -implicitDefEqProofs only [clR, Nat.reduceLeDiff, go_sem, evR, rat, nodesO, opR, Nat.reduceBEq]
  refine CallW.res (laws_toInt64SS_ok g.w (rows12_to hg.2.2.1).1 (rows12_to hg.2.2.1).2) [] rfl Try.call99 ?_ (.inl rfl) ?_
  · simp -implicitDefEqProofs only [agR, Nat.reduceLeDiff, Nat.reduceSub, vaR, go_sem, ints, rows, rat, rats, ratsO, rtR, intsO, rowsO]
  simp -implicitDefEqProofs only [clR, Nat.reduceLeDiff, go_sem, evR, rat, rowsO, opR, Nat.reduceBEq]
  refine CallW.res (laws_toInt64SS_ok g.v (rows12_to hg.2.2.2).1 (rows12_to hg.2.2.2).2) [] rfl Try.call99 ?_ (.inl rfl) ?_
  · simp -implicitDefEqProofs only [agR, Nat.reduceLeDiff, Nat.reduceSub, vaR, go_sem, ints, rows, rat, rats, ratsO, rtR, intsO, rowsO]
  simp -implicitDefEqProofs only [clR, Nat.reduceLeDiff, go_sem, evR, rat, rowsO, opR, Nat.reduceBEq]
  rfl
theorem laws_eqTreeNode_ok (x y : Nd) (hx : x.ch.length ≤ 1000000000000) (hy : y.ch.length ≤ 1000000000000) : Pure Try.prog 207 [nodeT x, nodeT y] (.b (decide (x = y))) := by
  refine fun_laws_eqTreeNode (by simp) ?_
  obtain ⟨p, a, b, f, ch⟩ := x
  obtain ⟨p', a', b', f', ch'⟩ := y
  simp -implicitDefEqProofs only [go_sem, evR, ints, rows, rat, rats, c_laws_eqTreeNode, nodeT, nodeC]
  have no : ∀ {P : Prop}, ¬ P → (Nd.mk p a b f ch = Nd.mk p' a' b' f' ch' → P) → decide (Nd.mk p a b f ch = Nd.mk p' a' b' f' ch') = false := fun h1 h2 => decide_eq_false fun h => h1 (h2 h)
  refine ⟨fun h1 => ?_, fun h1 => ?_⟩
  · rw [no (P := p = p') (by simpa using h1) (fun h => by injection h)]
  refine ⟨fun h2 => ?_, fun h2 => ?_⟩
  · rw [no (P := a = a') (by simpa using h2) (fun h => by injection h)]
  refine ⟨fun h3 => ?_, fun h3 => ?_⟩
  · rw [no (P := b = b') (by simpa using h3) (fun h => by injection h)]
  refine ⟨fun h4 => ?_, fun h4 => ?_⟩
  · rw [no (P := f = f') (by simpa using h4) (fun h => by injection h)]
  refine CallW.pure (laws_eqInt64S_ok ch ch' hx hy) [] rfl Try.call48 ?_ (by first | trivial | simp [T.noSh, T.noShL, rat]) rfl ?_
  · simp -implicitDefEqProofs only [agR, Nat.reduceLeDiff, Nat.reduceSub, vaR, go_sem, ints, rows, rat, rats, ratsO, rtR, intsO, rowsO]
  simp -implicitDefEqProofs only [go_sem, evR, ints, rows, rat, rats]
  refine ⟨fun h5 => ?_, fun h5 => ?_⟩
  · rw [no (P := ch = ch') (by simpa using h5) (fun h => by injection h)]
  · rw [decide_eq_true (by simp at h1 h2 h3 h4 h5; simp_all)]
theorem eqTreeNode_t (x y : Nd) (hx : x.ch.length ≤ 1000000000000) (hy : y.ch.length ≤ 1000000000000) : Pure Try.prog 207 [.agg [.i x.p, .i x.a, .i x.b, .i x.f, .sh 1 (x.ch.map T.i)], .agg [.i y.p, .i y.a, .i y.b, .i y.f, .sh 1 (y.ch.map T.i)]] (.b (decide (x = y))) := laws_eqTreeNode_ok x y hx hy
theorem laws_eqTreeNodeS_ok (a b : List Nd) (ha : a.length ≤ 1000000000000) (hb : b.length ≤ 1000000000000) (hra : ∀ r ∈ a, r.ch.length ≤ 1000000000000) (hrb : ∀ r ∈ b, r.ch.length ≤ 1000000000000) :
    Pure Try.prog 165 [nodes a, nodes b] (.b (decide (a = b))) := by
  refine fun_laws_eqTreeNodeS (by simp) ?_
  simp -implicitDefEqProofs only [go_sem, evR, ints, rows, rat, rats, c_laws_eqTreeNodeS, nodes]
  refine ⟨fun h => ?_, fun h => ?_⟩
  · have : a ≠ b := by rintro rfl; simp at h
    simp [this]
  · have hab : a.length = b.length := by simp at h; omega
    refine SemC.loopR (σ := Nat) (fun i => St.of [(0, .t (nodes a)), (1, .t (nodes b)), (5, .t (.i i))] []) (fun i => i ≤ a.length ∧ ∀ j, j < i → a[j]? = b[j]?) (fun i => a.length - i) 0 (Weak.of _ [] [] (by simp) (by simp) ?_ trivial) ⟨by simp, fun j hj => by omega⟩ fun i hI R hn hr he => ?_
    · simp -implicitDefEqProofs only [ints, rows, wkR, Nat.reduceEqDiff, ↓reduceIte, nodes]
    · rcases Nat.lt_or_ge i a.length with h9 | h9
      · obtain ⟨x, hx⟩ : ∃ x, a[i]? = some x := ⟨_, List.getElem?_eq_getElem h9⟩
        obtain ⟨y, hy⟩ : ∃ y, b[i]? = some y := ⟨_, List.getElem?_eq_getElem (by omega)⟩
        simp -implicitDefEqProofs only [go_sem, evR, ints, rows, rat, rats, nodes, nd_at hx, nd_at hy, decide_eq_true (show (i : Int) < (a.length : Int) by omega)]
        refine ⟨by omega, by rw [nd_len]; omega, by rw [nd_len]; omega, by omega, by rw [nd_len]; omega, by rw [nd_len]; omega, ?_⟩
        refine CallV.pure (eqTreeNode_t x y (hra x (List.mem_of_getElem? hx)) (hrb y (List.mem_of_getElem? hy))) [] rfl Try.call207 (fun e R' hR => ?_) (by first | trivial | simp [T.noSh, T.noShL, rat]) (fun _ => rfl) ?_
        · simp -implicitDefEqProofs only [agR, Nat.reduceLeDiff, Nat.reduceSub, vaR, go_sem, ints, rows, rat, rats, ratsO, rtR, intsO, rowsO]
        simp -implicitDefEqProofs only [go_sem, evR, ints, rows, rat, rats]
        refine ⟨fun h1 => hr _ ?_, fun h1 => hn _ (i + 1) (Weak.of _ [] [] (by simp) (by simp) ?_ trivial) ⟨by omega, fun j hj => ?_⟩ (by omega)⟩
        · simp -implicitDefEqProofs only [go_sem, evR, ints, rows, rat, rats]
          have : a ≠ b := by rintro rfl; rw [hx] at hy; cases hy; simp at h1
          simp [this]
        · simp -implicitDefEqProofs only [ints, rows, wkR, Nat.reduceEqDiff, ↓reduceIte, nodes, next64 h9 ha]
        · rcases Nat.lt_or_ge j i with h | h
          · exact hI.2 j h
          · have : j = i := by omega
            subst this
            rw [hx, hy]; simpa using h1
      · simp -implicitDefEqProofs only [go_sem, evR, ints, rows, rat, rats, nodes, decide_eq_false (show ¬ (i : Int) < (a.length : Int) by omega)]
        refine he _ _ ?_
        simp -implicitDefEqProofs only [go_sem, evR, ints, rows, rat, rats]
        have : a = b := by
          refine List.ext_getElem? fun j => ?_
          rcases Nat.lt_or_ge j i with h | h
          · exact hI.2 j h
          · rw [List.getElem?_eq_none (by omega), List.getElem?_eq_none (by omega)]
        simp [this]
theorem laws_eqTree_ok (a b : List Nd) (ha : a.length ≤ 1000000000000) (hb : b.length ≤ 1000000000000) (hra : ∀ r ∈ a, r.ch.length ≤ 1000000000000) (hrb : ∀ r ∈ b, r.ch.length ≤ 1000000000000) :
    Pure Try.prog 101 [treeT a, treeT b] (.b (decide (a = b))) := by
  refine fun_laws_eqTree (by simp) ?_
  simp -implicitDefEqProofs only [go_sem, evR, ints, rows, rat, rats, c_laws_eqTree, treeT, nodes]
  have hp := laws_eqTreeNodeS_ok a b ha hb hra hrb
  simp only [nodes] at hp
  refine CallW.pure hp [] rfl Try.call165 ?_ (by first | trivial | simp [T.noSh, T.noShL, rat]) rfl ?_
  · simp -implicitDefEqProofs only [agR, Nat.reduceLeDiff, Nat.reduceSub, vaR, go_sem, ints, rows, rat, rats, ratsO, rtR, intsO, rowsO]
  simp -implicitDefEqProofs only [go_sem, evR, ints, rows, rat, rats]
  exact ⟨fun h => by rw [show decide (a = b) = false by simpa using h], fun h => by rw [show decide (a = b) = true by simpa using h]⟩
theorem laws_eqGame_ok (g h : Gm) (hg : game12 g) (hh : game12 h) : Pure Try.prog 25 [gameT g, gameT h] (.b (decide (g = h))) := by
  refine fun_laws_eqGame (by simp) ?_
  obtain ⟨nd, w, v⟩ := g
  obtain ⟨nd', w', v'⟩ := h
  simp -implicitDefEqProofs only [go_sem, evR, ints, rows, rat, rats, c_laws_eqGame, gameT, nodes]
  have no : ∀ {P : Prop}, ¬ P → (Gm.mk nd w v = Gm.mk nd' w' v' → P) → decide (Gm.mk nd w v = Gm.mk nd' w' v') = false := fun h1 h2 => decide_eq_false fun h => h1 (h2 h)
  have hp := laws_eqTree_ok nd nd' hg.1 hh.1 hg.2.1 hh.2.1
  simp only [treeT, nodes] at hp
  refine CallW.pure hp [] rfl Try.call101 ?_ (by first | trivial | simp [T.noSh, T.noShL, rat]) rfl ?_
  · simp -implicitDefEqProofs only [agR, Nat.reduceLeDiff, Nat.reduceSub, vaR, go_sem, ints, rows, rat, rats, ratsO, rtR, intsO, rowsO]
  simp -implicitDefEqProofs only [go_sem, evR, ints, rows, rat, rats]
  refine ⟨fun h1 => ?_, fun h1 => ?_⟩
  · rw [no (P := nd = nd') (by simpa using h1) (fun h => by injection h)]
  refine CallW.pure (laws_eqInt64SS_ok w w' hg.2.2.1.1 hh.2.2.1.1 hg.2.2.1.2 hh.2.2.1.2) [] rfl Try.call24 ?_ (by first | trivial | simp [T.noSh, T.noShL, rat]) rfl ?_
  · simp -implicitDefEqProofs only [agR, Nat.reduceLeDiff, Nat.reduceSub, vaR, go_sem, ints, rows, rat, rats, ratsO, rtR, intsO, rowsO]
  simp -implicitDefEqProofs only [go_sem, evR, ints, rows, rat, rats]
  refine ⟨fun h2 => ?_, fun h2 => ?_⟩
  · rw [no (P := w = w') (by simpa using h2) (fun h => by injection h)]
  refine CallW.pure (laws_eqInt64SS_ok v v' hg.2.2.2.1 hh.2.2.2.1 hg.2.2.2.2 hh.2.2.2.2) [] rfl Try.call24 ?_ (by first | trivial | simp [T.noSh, T.noShL, rat]) rfl ?_
  · simp -implicitDefEqProofs only [agR, Nat.reduceLeDiff, Nat.reduceSub, vaR, go_sem, ints, rows, rat, rats, ratsO, rtR, intsO, rowsO]
  simp -implicitDefEqProofs only [go_sem, evR, ints, rows, rat, rats]
  refine ⟨fun h3 => ?_, fun h3 => ?_⟩
  · rw [no (P := v = v') (by simpa using h3) (fun h => by injection h)]
  · rw [decide_eq_true (by simp at h1 h2 h3; simp_all)]
end
end Go.Ab

/- Contracts: best responses, the reference's. -/
set_option linter.unusedSimpArgs false
set_option linter.unusedVariables false
namespace Go.Ab
open Go.Proofs

theorem sumI_range_abs {G : Nat → Int} {c : Int} : ∀ {n : Nat}, (∀ k, k < n → -c ≤ G k ∧ G k ≤ c) → -(n * c) ≤ sumI ((List.range n).map G) ∧ sumI ((List.range n).map G) ≤ n * c
  | 0, _ => by simp [sumI]
  | n + 1, h => by
    have ih := sumI_range_abs (n := n) fun k hk => h k (by omega)
    have h1 := h n (by omega)
    rw [List.range_succ, List.map_append, List.map_cons, List.map_nil, sumI_snoc]
    have e : ((n + 1 : Nat) : Int) * c = n * c + c := by rw [Int.natCast_add, Int.add_mul]; simp
    omega
def nilO (r : Nat) (K : A → Prop) : Root → Prop
  | .live (.box _) _ => K (.own r)
  | _ => False
theorem nilCheckW_own {r : Nat} {S : St} {K : A → Prop} : nilCheckW (.own r) S K = nilO r K (S.roots r) := by
  show (match S.roots r with | .live (.box _) _ => K (.own r) | _ => False) = _
  cases S.roots r with
  | live t lk => cases t <;> rfl
  | _ => rfl
theorem nilCheckW_ptr {r off : Nat} {S : St} {K : A → Prop} : nilCheckW (.ptr r off) S K = K (.ptr r off) := rfl
theorem nilCheckW_pin {l : List T} {off : Nat} {S : St} {K : A → Prop} : nilCheckW (.t (.pin l off)) S K = K (.t (.pin l off)) := rfl
attribute [go_sem] nilCheckW_own nilCheckW_ptr nilCheckW_pin nilO
section
attribute [-go_sem] load1C load1V fldC lenC idxC loadNV nilCheckW
theorem l23Set_t {g : Gm} (hg : isGameB g = true) {pl : Int} {i c : Nat} (hi : i < g.nd.length) (hp : (g.nd.getD i nd0).p = pl) (hc : c < g.w.length) : Pure Try.prog 221 [.agg [.sh 5 (chunk nodeC g.nd), .sh 1 (g.w.map ints), .sh 1 (g.v.map ints)], .i pl, .i i, .i c] (.i (setI g pl i c)) := spec_l23Set_ok g hg pl i c hi hp hc
end
end Go.Ab

/- Games as data: no strategy does better than the best; bounds of the number of a game. -/
set_option linter.unusedSimpArgs false
set_option linter.unusedVariables false
namespace Go.Ab

theorem zipW_sum (F : Int → Int → Int) : ∀ (l m : List Int), l.length = m.length → sumI (List.zipWith F l m) = sumI ((List.range m.length).map fun k => F (l.getD k 0) (m.getD k 0))
  | [], [], _ => rfl
  | x :: l, y :: m, h => by
    rw [List.zipWith_cons_cons, sumI, zipW_sum F l m (by simpa using h), List.length_cons, List.range_succ_eq_map, List.map_cons, List.map_map, sumI]
    rfl
def gnum (g : Gm) (s t : List (List Int)) : Int := sumI ((List.range g.w.length).map fun a => sumI ((List.range g.w.length).map fun b => (g.w.getD a []).getD b 0 * val g s t g.nd.length 0 a b (dpt g)))
end Go.Ab

/- Games as data: the parts of a tree below its nodes; what a best response writes. -/
set_option linter.unusedSimpArgs false
set_option linter.unusedVariables false
namespace Go.Ab

def isKid (l : List Nd) (i j : Nat) : Prop := i < l.length ∧ (l.getD i nd0).p ≠ 2 ∧ (j : Int) ∈ (l.getD i nd0).ch
inductive Rch (l : List Nd) : Nat → Nat → Prop
  | refl (i : Nat) : Rch l i i
  | step {i j k : Nat} : Rch l i j → isKid l j k → Rch l i k
theorem kid_lt {l : List Nd} (h : ndsOK l) {i j : Nat} (hk : isKid l i j) : i < j ∧ j < l.length := by
  obtain ⟨h1, h2, h3⟩ := hk
  have hx : l[i]? = some (l.getD i nd0) := by rw [List.getD_eq_getElem?_getD, List.getElem?_eq_getElem h1]; rfl
  have := ndOK_child (h i _ hx) _ h3
  omega
theorem Rch.le {l : List Nd} (h : ndsOK l) {i j : Nat} (hr : Rch l i j) : i ≤ j := by
  induction hr with
  | refl => exact Nat.le_refl _
  | step _ hk ih => have := kid_lt h hk; omega
theorem occ_count {l : List Nd} {i j : Nat} (hk : isKid l i j) : 1 ≤ occ j [l.getD i nd0] := by
  obtain ⟨h1, h2, h3⟩ := hk
  have := List.count_pos_iff.2 h3
  simp only [occ, List.map_cons, List.map_nil, if_neg h2, List.sum_cons, List.sum_nil]
  omega
theorem occ_append (c : Nat) (l l' : List Nd) : occ c (l ++ l') = occ c l + occ c l' := by simp [occ]
theorem occ_two {l : List Nd} {i i' j : Nat} (hii : i < i') (h : isKid l i j) (h' : isKid l i' j) : 2 ≤ occ j l := by
  have hl' : i' < l.length := h'.1
  have hl : i < l.length := h.1
  have e1 : l = l.take i' ++ (l.getD i' nd0) :: l.drop (i' + 1) := by
    have : l.getD i' nd0 = l[i']'hl' := by simp [List.getD_eq_getElem?_getD, List.getElem?_eq_getElem hl']
    rw [this, ← List.drop_eq_getElem_cons hl', List.take_append_drop]
  have hil : i < (l.take i').length := by rw [List.length_take]; omega
  have e2 : l.take i' = (l.take i').take i ++ (l.getD i nd0) :: (l.take i').drop (i + 1) := by
    have : l.getD i nd0 = (l.take i')[i]'hil := by simp [List.getElem_take, List.getD_eq_getElem?_getD, List.getElem?_eq_getElem hl]
    rw [this, ← List.drop_eq_getElem_cons hil, List.take_append_drop]
  have o1 := occ_count h
  have o2 := occ_count h'
  have e3 : occ j (l.getD i' nd0 :: l.drop (i' + 1)) = occ j [l.getD i' nd0] + occ j (l.drop (i' + 1)) := occ_append j [_] _
  have e4 : occ j (l.getD i nd0 :: (l.take i').drop (i + 1)) = occ j [l.getD i nd0] + occ j ((l.take i').drop (i + 1)) := occ_append j [_] _
  have e5 : occ j l = occ j (l.take i') + occ j (l.getD i' nd0 :: l.drop (i' + 1)) := by
    conv => lhs; rw [e1]
    exact occ_append _ _ _
  have e6 : occ j (l.take i') = occ j ((l.take i').take i) + occ j (l.getD i nd0 :: (l.take i').drop (i + 1)) := by
    conv => lhs; rw [e2]
    exact occ_append _ _ _
  omega
theorem kid_unique {l : List Nd} (h : ndsOK l) (ho : ∀ i, i < l.length → i = 0 ∨ occ i l = 1) {i i' j : Nat} (hk : isKid l i j) (hk' : isKid l i' j) : i = i' := by
  have hj := kid_lt h hk
  have h1 := (ho j hj.2).resolve_left (by omega)
  rcases Nat.lt_trichotomy i i' with h2 | h2 | h2
  · have := occ_two h2 hk hk'; omega
  · exact h2
  · have := occ_two h2 hk' hk; omega
theorem Rch.up {l : List Nd} {i j : Nat} (hr : Rch l i j) : j = i ∨ ∃ m, Rch l i m ∧ isKid l m j := by
  cases hr with
  | refl => exact .inl rfl
  | step h hk => exact .inr ⟨_, h, hk⟩
theorem Rch.apart {l : List Nd} (h : ndsOK l) (ho : ∀ i, i < l.length → i = 0 ∨ occ i l = 1) {i c1 c2 j : Nat} (k1 : isKid l i c1) (k2 : isKid l i c2) (h1 : Rch l c1 j) (h2 : Rch l c2 j) : c1 = c2 := by
  induction h1 with
  | refl =>
    rcases h2.up with e | ⟨m, hm, hk⟩
    · exact e
    · have := kid_unique h ho k1 hk
      subst this
      have := hm.le h
      have := kid_lt h k2
      omega
  | step hj hk ih =>
    rcases h2.up with e | ⟨m, hm, hk2⟩
    · subst e
      have := kid_unique h ho k2 hk
      subst this
      have := hj.le h
      have := kid_lt h k1
      omega
    · have := kid_unique h ho hk hk2
      subst this
      exact ih hm
def pureL (n k : Nat) : List Int := (List.replicate n 0).set k 60
end Go.Ab

/- Games as data: a best response is a strategy and attains the best value. -/
set_option linter.unusedSimpArgs false
set_option linter.unusedVariables false
namespace Go.Ab

theorem pureL_getD {n j k : Nat} (hj : j < n) : (pureL n j).getD k 0 = if k = j then 60 else 0 := by
  unfold pureL
  rw [List.getD_eq_getElem?_getD, List.getElem?_set, List.length_replicate]
  by_cases h : j = k
  · subst h; rw [if_pos rfl, if_pos hj, if_pos rfl]; rfl
  · rw [if_neg h, if_neg (Ne.symm h), List.getElem?_replicate]
    split <;> rfl
theorem sumI_pick (F : Nat → Int) (j : Nat) : ∀ n, sumI ((List.range n).map fun k => (if k = j then 60 else 0) * F k) = if j < n then 60 * F j else 0
  | 0 => by simp [sumI]
  | n + 1 => by
    rw [List.range_succ, List.map_append, sumI_append, sumI_pick F j n]
    simp only [List.map_cons, List.map_nil, sumI, Int.add_zero]
    by_cases h : n = j
    · subst h; rw [if_neg (by omega), if_pos rfl, if_pos (by omega)]; omega
    · rw [if_neg h, Int.zero_mul, Int.add_zero]
      by_cases h2 : j < n
      · rw [if_pos h2, if_pos (by omega)]
      · rw [if_neg h2, if_neg (by omega)]
theorem pureL_sum {n j : Nat} (F : Nat → Int) (hj : j < n) : sumI ((List.range n).map fun k => (pureL n j).getD k 0 * F k) = 60 * F j := by
  have := sumI_pick F j n
  rw [if_pos hj] at this
  rw [← this]
  exact sumI_congr fun k _ => by rw [pureL_getD hj]
theorem pureL_length (n j : Nat) : (pureL n j).length = n := by simp [pureL]
theorem pureL_parts {n j : Nat} (hj : j < n) : (∀ x ∈ pureL n j, 0 ≤ x ∧ x ≤ 60) ∧ sumI (pureL n j) = 60 := by
  constructor
  · intro x hx
    rcases List.mem_or_eq_of_mem_set hx with h | rfl
    · have := (List.mem_replicate.1 h).2; omega
    · omega
  · have h := pureL_sum (fun _ => 1) hj
    simp only [Int.mul_one] at h
    have e := map_getD_range (pureL n j)
    rw [pureL_length] at e
    rw [← e]; exact h
theorem idxs_get {l : List Nd} {pl : Int} : ∀ (n q : Nat) (x : Int), (idxs l pl n)[q]? = some x → ∃ i : Nat, x = i ∧ i < n ∧ (l.getD i nd0).p = pl ∧ (idxs l pl i).length = q
  | 0, q, x, h => by simp [idxs] at h
  | n + 1, q, x, h => by
    rw [idxs_succ] at h
    split at h
    · rename_i hp
      rcases Nat.lt_trichotomy q (idxs l pl n).length with h1 | h1 | h1
      · rw [List.getElem?_append_left h1] at h
        obtain ⟨i, e, hi, h2⟩ := idxs_get n q x h
        exact ⟨i, e, by omega, h2⟩
      · rw [List.getElem?_append_right (by omega), h1, Nat.sub_self] at h
        simp at h
        exact ⟨n, h.symm, by omega, hp, h1.symm⟩
      · rw [List.getElem?_eq_none (by simp; omega)] at h; cases h
    · obtain ⟨i, e, hi, h2⟩ := idxs_get n q x h
      exact ⟨i, e, by omega, h2⟩
theorem setsOf_get {ns : List Int} {k : Nat} : ∀ {e : Nat}, e < (setsOf ns k).length → ∃ q c x, c < k ∧ ns[q]? = some x ∧ e = q * k + c ∧ (setsOf ns k)[e]? = some [x, (c : Int)] := by
  induction ns with
  | nil => intro e h; simp [setsOf] at h
  | cons n ns ih =>
    intro e h
    have e0 : setsOf (n :: ns) k = ((List.range k).map fun c : Nat => [n, (c : Int)]) ++ setsOf ns k := rfl
    rw [e0, List.length_append, List.length_map, List.length_range] at h
    by_cases he : e < k
    · refine ⟨0, e, n, he, rfl, by omega, ?_⟩
      rw [e0, List.getElem?_append_left (by simpa using he), List.getElem?_map, List.getElem?_range he]; rfl
    · obtain ⟨q, c, x, h1, h2, h3, h4⟩ := ih (e := e - k) (by omega)
      refine ⟨q + 1, c, x, h1, h2, by rw [Nat.add_mul]; omega, ?_⟩
      rw [e0, List.getElem?_append_right (by simpa using he), List.length_map, List.length_range]; exact h4
theorem sets_find {g : Gm} {pl : Int} {e : Nat} (h : e < (sets g pl).length) : ∃ i c, i < g.nd.length ∧ c < g.w.length ∧ (g.nd.getD i nd0).p = pl ∧ e = setI g pl i c ∧ sizeAt g pl e = (g.nd.getD i nd0).ch.length := by
  obtain ⟨q, c, x, h1, h2, h3, h4⟩ := setsOf_get h
  obtain ⟨i, rfl, hi, hp, hq⟩ := idxs_get _ _ _ h2
  refine ⟨i, c, hi, h1, hp, by rw [setI, hq]; exact h3, ?_⟩
  have e0 : (sets g pl).getD e [] = [(i : Int), (c : Int)] := by rw [List.getD_eq_getElem?_getD]; rw [show (sets g pl)[e]? = some [(i : Int), (c : Int)] from h4]; rfl
  rw [sizeAt, e0]; rfl
end Go.Ab

/- Games as data: where a player's nodes have their sets; the reach as it is made. -/
set_option linter.unusedSimpArgs false
set_option linter.unusedVariables false
namespace Go.Ab

def fillN (ns : List Int) (k n : Nat) : Nat → List Int
  | 0 => List.replicate n 0
  | j + 1 => (fillN ns k n j).set (ns.getD j 0).toNat ((j * k : Nat) : Int)
theorem fillN_length (ns : List Int) (k n : Nat) : ∀ j, (fillN ns k n j).length = n
  | 0 => by simp [fillN]
  | j + 1 => by rw [fillN, List.length_set, fillN_length ns k n j]
def ownL (g : Gm) (pl : Int) : List Int := fillN (idxs g.nd pl g.nd.length) g.w.length g.nd.length (idxs g.nd pl g.nd.length).length
theorem ownL_length (g : Gm) (pl : Int) : (ownL g pl).length = g.nd.length := fillN_length _ _ _ _
theorem idxs_nodup (l : List Nd) (pl : Int) (n : Nat) : (idxs l pl n).Nodup := by
  unfold idxs
  have h : ((List.range n).filter fun i => decide ((l.getD i nd0).p = pl)).Nodup := List.nodup_range.sublist List.filter_sublist
  refine List.Pairwise.map _ (fun a b hab => ?_) h
  intro he
  exact hab (by have he : (a : Int) = b := he; omega)
theorem fillN_get {ns : List Int} {k n i q0 : Nat} (hn : ns.Nodup) (h0 : ∀ x ∈ ns, 0 ≤ x) (hq : ns[q0]? = some (i : Int)) (hi : i < n) : ∀ j, j ≤ ns.length → (fillN ns k n j)[i]? = some (if q0 < j then ((q0 * k : Nat) : Int) else 0)
  | 0, _ => by
    rw [fillN, List.getElem?_replicate, if_pos hi, if_neg (by omega)]
  | j + 1, hj => by
    have ih := fillN_get (k := k) hn h0 hq hi j (by omega)
    obtain ⟨hq1, hq2⟩ := List.getElem?_eq_some_iff.1 hq
    have hjd : ns.getD j 0 = ns[j]'(by omega) := by rw [List.getD_eq_getElem?_getD, List.getElem?_eq_getElem (by omega : j < ns.length)]; rfl
    have hj0 := h0 (ns[j]'(by omega)) (List.getElem_mem _)
    rw [fillN, hjd, List.getElem?_set, fillN_length]
    by_cases he : j = q0
    · subst he
      rw [hq2]
      simp only [Int.toNat_natCast, if_true]
      rw [if_pos hi, if_pos (by omega)]
    · have hne : ns[j]'(by omega) ≠ (i : Int) := fun h => by
        rcases Nat.lt_or_gt_of_ne he with h1 | h1
        · exact (List.pairwise_iff_getElem.1 hn j q0 (by omega) hq1 h1) (h.trans hq2.symm)
        · exact (List.pairwise_iff_getElem.1 hn q0 j hq1 (by omega) h1) (hq2.trans h.symm)
      rw [if_neg (by omega), ih]
      by_cases h2 : q0 < j
      · rw [if_pos h2, if_pos (by omega)]
      · rw [if_neg h2, if_neg (by omega)]
theorem ownL_get {g : Gm} {pl : Int} {i : Nat} (hi : i < g.nd.length) (hp : (g.nd.getD i nd0).p = pl) : (ownL g pl)[i]? = some (((idxs g.nd pl i).length * g.w.length : Nat) : Int) := by
  obtain ⟨rest, e⟩ := idxs_split g.nd pl hp g.nd.length hi
  have hq : (idxs g.nd pl g.nd.length)[(idxs g.nd pl i).length]? = some (i : Int) := by
    rw [e, List.getElem?_append_right (Nat.le_refl _), Nat.sub_self]; rfl
  have h0 : ∀ x ∈ idxs g.nd pl g.nd.length, 0 ≤ x := fun x hx => by
    obtain ⟨j, rfl, _⟩ := idxs_mem hx; omega
  have hlt := (List.getElem?_eq_some_iff.1 hq).1
  have := fillN_get (k := g.w.length) (idxs_nodup g.nd pl g.nd.length) h0 hq hi _ (Nat.le_refl _)
  rw [if_pos hlt] at this
  exact this
end Go.Ab

/- Contracts: best responses, the program's. -/
set_option linter.unusedSimpArgs false
set_option linter.unusedVariables false
namespace Go.Ab
open Go.Proofs

theorem payoffAt_t {g : Gm} (hg : isGameB g = true) (i a b : Nat) (hi : i < g.nd.length) (ha : a < g.w.length) (hb : b < g.w.length) : Pure Try.prog 213 [.agg [.sh 5 (chunk nodeC g.nd), .sh 1 (g.w.map ints), .sh 1 (g.v.map ints)], .i i, .i a, .i b] (.i (pay g i a b)) := impl_payoffAt_ok g hg i a b hi ha hb
section
attribute [-go_sem] load1C load1V fldC lenC idxC loadNV nilCheckW
end
end Go.Ab

/- Contracts: the best number and the first best response, the program's. -/
set_option linter.unusedSimpArgs false
set_option linter.unusedVariables false
namespace Go.Ab
open Go.Proofs

theorem idxs_lt' {l : List Nd} {pl : Int} {j : Nat} {y : Int} (h : (idxs l pl l.length)[j]? = some y) : ∃ i : Nat, y = i ∧ i < l.length := by
  obtain ⟨i, h1, h2, _⟩ := idxs_mem (List.mem_of_getElem? h)
  exact ⟨i, h1, h2⟩
theorem mergeR_at (m : List Nat) (R R' : Nat → Root) (r : Nat) : mergeR m R R' r = if m.any (fun d => decide (r = d) || decide (r / 1000 = d + 1)) then R r else R' r := rfl
section
attribute [-go_sem] load1C load1V fldC lenC idxC loadNV nilCheckW
end
end Go.Ab

/- Contracts: pairs of strategies; best numbers, bounds, equilibria, exported. -/
set_option linter.unusedSimpArgs false
set_option linter.unusedVariables false
namespace Go.Ab
open Go.Proofs

section
attribute [-go_sem] load1C load1V fldC lenC idxC loadNV nilCheckW
theorem vb_t {f : FuncId} {g : Gm} {s t : Int × List (List Int)} {r : T} (h : Pure Try.prog f [gameT g, stratT s, stratT t] r) : Pure Try.prog f [.agg [.sh 5 (chunk nodeC g.nd), .sh 1 (g.w.map ints), .sh 1 (g.v.map ints)], .agg [.i s.1, .sh 1 (s.2.map ints)], .agg [.i t.1, .sh 1 (t.2.map ints)]] r := h
def tr3 (r : Int × Int × Int) : T := .tup [.i r.1, .i r.2.1, .i r.2.2]
end
end Go.Ab

/- Sizes of games, strategies and claims behind the laws' budgets. -/
set_option linter.unusedSimpArgs false
set_option linter.unusedVariables false
namespace Go.Ab
open Go.Proofs

def rowsS (m : List (List Int)) : Prop := m.length ≤ 1048576 ∧ tot m ≤ 1048576
def gameS (g : Gm) : Prop := rowsS (chs g.nd) ∧ rowsS g.w ∧ rowsS g.v
theorem rowsS_12 {m : List (List Int)} (h : rowsS m) : rows12 m := ⟨by have := h.1; omega, fun r hr => by have := tot_mem hr; have := h.2; omega⟩
theorem rowsS_L {m : List (List Int)} (h : rowsS m) : rowsL m := ⟨by have := h.1; omega, fun r hr => by have := tot_mem hr; have := h.2; omega⟩
theorem chs_mem {l : List Nd} {x : Nd} (h : x ∈ l) : x.ch ∈ chs l := List.mem_map.2 ⟨x, h, rfl⟩
theorem chs_length (l : List Nd) : (chs l).length = l.length := by simp [chs]
theorem gameS_12 {g : Gm} (h : gameS g) : game12 g := by
  have h1 := rowsS_12 h.1
  exact ⟨by have := h1.1; rw [chs_length] at this; exact this, fun x hx => h1.2 _ (chs_mem hx), rowsS_12 h.2.1, rowsS_12 h.2.2⟩
theorem gameS_L {g : Gm} (h : gameS g) : gameL g := by
  have h1 := rowsS_L h.1
  exact ⟨by have := h1.1; rw [chs_length] at this; exact this, fun x hx => h1.2 _ (chs_mem hx), rowsS_L h.2.1, rowsS_L h.2.2⟩
theorem budgetM_S {m : List (List Int)} {left : Int} (h0 : 0 ≤ left) (h1 : left ≤ 1048576) (h : ¬ budgetMat m left < 0) : rowsS m ∧ 0 ≤ budgetMat m left ∧ budgetMat m left ≤ 1048576 := by
  have h2 := nbudgetMat_le (m := m) (left := left) (by omega)
  have h3 := (budgetMat_ok (m := m) (left := left) h0 (by omega)).1
  have h4 := budgetMat_tot (m := m) (left := left) h0 (by omega)
  exact ⟨⟨by omega, by omega⟩, by omega, by omega⟩
theorem budgetG_S {g : Gm} {left : Int} (h0 : 0 ≤ left) (h1 : left ≤ 1048576) (h : ¬ budgetG g left < 0) : gameS g ∧ 0 ≤ budgetG g left ∧ budgetG g left ≤ 1048576 := by
  unfold budgetG at h ⊢
  by_cases a : budgetMat (chs g.nd) left < 0
  · rw [if_pos a] at h; exact absurd h (by decide)
  rw [if_neg a] at h ⊢
  obtain ⟨a1, a2, a3⟩ := budgetM_S h0 h1 a
  by_cases b : budgetMat g.w (budgetMat (chs g.nd) left) < 0
  · rw [if_pos b] at h; exact absurd h (by decide)
  rw [if_neg b] at h ⊢
  obtain ⟨b1, b2, b3⟩ := budgetM_S a2 a3 b
  obtain ⟨c1, c2, c3⟩ := budgetM_S b2 b3 h
  exact ⟨⟨a1, b1, c1⟩, c2, c3⟩
end Go.Ab

/- Functions in compact form, with hints. -/
set_option linter.unusedVariables false
namespace Go.Ab
open Go.Proofs

def c_impl_newEvaluator_h : CC :=
 (.seq (.reg [.o (.box 3 (sl 0)),
 .o (.box 4 (sl 1)),
 .o (.box 5 (sl 2)),
 .o (.move 6 (cv (.pointer none)))])
 ((.seq (.draw [25] [(kR, .o (.loadN 15 3 (sl 3))),
 (kR, .o (.fld 16 1 (sl 4))),
 (kR, .o (.load1 17 (sl 16))),
 (kR, .o (.fld 18 1 (sl 5))),
 (kR, .o (.load1 19 (sl 18))),
 (kR, .o (.build 20 [.v (.slice none 0 0), .v (.slice none 0 0)] [(0, 1), (1, 1)] [(0, (sl 17)), (1, (sl 19))])),
 (kR, .o (.fld 21 0 (sl 3))),
 (kR, .o (.fld 22 0 (sl 21))),
 (kR, .o (.load1 23 (sl 22))),
 (kR, .o (.lenS 24 (sl 23))),
 (kN, .o (.make 25 [.v (.int .i64 0)] 8 (sl 24) (sl 24))),
 (kR, .o (.build 26 [.v (.slice none 0 0), .v (.slice none 0 0), .v (.slice none 0 0), .v (.slice none 0 0), .v (.slice none 0 0), .v (.slice none 0 0), .v (.slice none 0 0), .v (.slice none 0 0)] [(0, 3), (3, 2), (5, 2), (7, 1)] [(0, (sl 15)), (2, (sl 20)), (3, (sl 25))])),
 (kH, .o (.box 27 (sl 26))),
 (kR, .o (.move 7 (sl 27)))])
 ((.seq (.seq (.reg [.o (.move 28 (ci 0))])
 ((.block 0 (.loop (.seq (.reg [.o (.bin 29 .lss (sl 28) (ci 2))])
 ((.seq (.cond (sl 29) .skip
 (.exit 0))
 ((.seq (.block 1 (.seq (.reg [.o (.move 30 (sl 28)),
 .o (.move 8 (sl 30))])
 ((.seq (.draw [37] [(kR, .o (.move 31 (sl 7))),
 (kR, .o (.move 32 (sl 8))),
 (kR, .o (.fld 33 0 (sl 3))),
 (kR, .o (.fld 34 0 (sl 33))),
 (kR, .o (.load1 35 (sl 34))),
 (kR, .o (.lenS 36 (sl 35))),
 (kN, .o (.make 37 [.v (.int .i64 0)] 8 (sl 36) (sl 36))),
 (.r false [37], .o (.nilc 38 (sl 31))),
 (.r false [37], .o (.fld 39 3 (sl 38))),
 (kR, .o (.idxA 40 2 1 (sl 39) (sl 32))),
 (kH, .o (.store 1 (sl 40) (sl 37)))])
 ((.seq (.reg [.o (.fld 41 0 (sl 3)),
 .o (.loadN 42 1 (sl 41)),
 .o (.move 43 (sl 8)),
 .o (.call (some 44) (cf 181) [(sl 42), (sl 43)]),
 .o (.lenS 45 (sl 44)),
 .o (.move 46 (ci 0))])
 ((.block 2 (.loop (.seq (.reg [.o (.bin 47 .lss (sl 46) (sl 45))])
 ((.seq (.cond (sl 47) .skip
 (.exit 2))
 ((.seq (.block 3 (.seq (.reg [.o (.move 48 (sl 46)),
 .o (.idx 49 1 (sl 44) (sl 46)),
 .o (.load1 50 (sl 49)),
 .o (.move 9 (sl 48)),
 .o (.move 10 (sl 50))])
 ((.weak (.draw [] [(kR, .o (.move 51 (sl 7))),
 (kR, .o (.move 52 (sl 8))),
 (kR, .o (.nilc 53 (sl 51))),
 (kR, .o (.fld 54 3 (sl 53))),
 (kR, .o (.idxA 55 2 1 (sl 54) (sl 52))),
 (kR, .o (.load1 56 (sl 55))),
 (kR, .o (.move 57 (sl 10))),
 (kR, .o (.move 58 (sl 9))),
 (kR, .o (.fld 59 1 (sl 3))),
 (kR, .o (.load1 60 (sl 59))),
 (kR, .o (.lenS 61 (sl 60))),
 (kR, .o (.bin 62 .mul (sl 58) (sl 61))),
 (kR, .o (.idx 63 1 (sl 56) (sl 57))),
 (kH, .o (.store 1 (sl 63) (sl 62)))])))))
 ((.reg [.o (.bin 64 .add (sl 46) (ci 1)),
 .o (.move 46 (sl 64))]))))))))))))))))
 ((.reg [.o (.bin 65 .add (sl 28) (ci 1)),
 .o (.move 28 (sl 65))])))))))))))
 ((.seq (.seq (.reg [.o (.fld 66 0 (sl 3)),
 .o (.fld 67 0 (sl 66)),
 .o (.load1 68 (sl 67)),
 .o (.lenS 69 (sl 68)),
 .o (.move 70 (ci 0))])
 ((.block 4 (.loop (.seq (.reg [.o (.bin 71 .lss (sl 70) (sl 69))])
 ((.seq (.cond (sl 71) .skip
 (.exit 4))
 ((.seq (.block 5 (.seq (.reg [.o (.move 72 (sl 70)),
 .o (.idx 73 5 (sl 68) (sl 70)),
 .o (.loadN 74 5 (sl 73)),
 .o (.alloc 12 [.v (.int .i64 0), .v (.int .i64 0), .v (.int .i64 0), .v (.int .i64 0), .v (.slice none 0 0)]),
 .o (.move 11 (sl 72)),
 .o (.store 5 (sl 12) (sl 74))])
 ((.seq (.reg [.o (.fld 75 4 (sl 12)),
 .o (.load1 76 (sl 75)),
 .o (.lenS 77 (sl 76)),
 .o (.move 78 (ci 0))])
 ((.block 6 (.loop (.seq (.reg [.o (.bin 79 .lss (sl 78) (sl 77))])
 ((.seq (.cond (sl 79) .skip
 (.exit 6))
 ((.seq (.block 7 (.seq (.reg [.o (.idx 80 1 (sl 76) (sl 78)),
 .o (.load1 81 (sl 80)),
 .o (.move 14 (sl 81))])
 ((.reg [.o (.move 82 (sl 7)),
 .o (.nilc 83 (sl 82)),
 .o (.fld 84 7 (sl 83)),
 .o (.load1 85 (sl 84)),
 .o (.move 86 (sl 14)),
 .o (.move 87 (sl 11)),
 .o (.idx 88 1 (sl 85) (sl 86)),
 .o (.store 1 (sl 88) (sl 87))]))))
 ((.reg [.o (.bin 89 .add (sl 78) (ci 1)),
 .o (.move 78 (sl 89))]))))))))))))))
 ((.reg [.o (.bin 90 .add (sl 70) (ci 1)),
 .o (.move 70 (sl 90))])))))))))))
 ((.seq (.reg [.o (.move 91 (sl 7)),
 .o (.move 6 (sl 91))])
 (.ret))))))))))
theorem fun_impl_newEvaluator_h {rin : List T} {args : List A} {Q : List T → T → Prop} (ha : args.length ≤ 92) (h : cW Try.prog 92 c_impl_newEvaluator_h (retP Try.prog [.tmp 6] rin.length Q) (St.of (enum 0 args) (enum 1000000000 rin))) :
    Fun Try.prog 179 rin args Q :=
  Fun.of (H := ⟨[], [9]⟩) Try.func179 rfl rfl rfl (by kernel_rfl) ha (by decide) h

end Go.Ab

/- Games as data: parents; values over the first children; bounds of values. -/
set_option linter.unusedSimpArgs false
set_option linter.unusedVariables false
namespace Go.Ab

def parN (l : List Nd) : Nat → List Int
  | 0 => List.replicate l.length 0
  | i + 1 => (l.getD i nd0).ch.foldl (fun P (c : Int) => P.set c.toNat (i : Int)) (parN l i)
theorem foldl_set_length (i : Int) : ∀ (cs : List Int) (P : List Int), (cs.foldl (fun P (c : Int) => P.set c.toNat i) P).length = P.length
  | [], P => rfl
  | c :: cs, P => by rw [List.foldl_cons, foldl_set_length i cs]; simp
theorem parN_length (l : List Nd) : ∀ i, (parN l i).length = l.length
  | 0 => by simp [parN]
  | i + 1 => by rw [parN, foldl_set_length, parN_length l i]
def valK (g : Gm) (s t : List (List Int)) (f a b p : Nat) (q ch : List Int) (k : Nat) : Int := sumI ((List.zipWith (fun x c => x * val g s t f c.toNat a b p) q ch).take k)
theorem valK_succ {g : Gm} {s t : List (List Int)} {f a b p : Nat} {q ch : List Int} {k : Nat} {x c : Int} (hx : q[k]? = some x) (hc : ch[k]? = some c) : valK g s t f a b p q ch (k + 1) = valK g s t f a b p q ch k + x * val g s t f c.toNat a b p := by
  unfold valK
  have h : (List.zipWith (fun x c => x * val g s t f c.toNat a b p) q ch)[k]? = some (x * val g s t f c.toNat a b p) := by
    rw [List.getElem?_zipWith, hx, hc]
  rw [List.take_add_one, h, Option.toList_some, sumI_snoc]
theorem val_abs {g : Gm} {s t : List (List Int)} (hnd : ndsOK g.nd) (hs : partsOK g s 0) (ht : partsOK g t 1) {a b : Nat} (ha : a < g.w.length) (hb : b < g.w.length) : ∀ (f i p : Nat), i < g.nd.length → dep g.nd f i ≤ p → -(100 * pw p) ≤ val g s t f i a b p ∧ val g s t f i a b p ≤ 100 * pw p
  | 0, i, p, _, _ => by
    have := pw_pos p
    simp only [val]; omega
  | f + 1, i, p, hi, hd => by
    have hpp := pw_pos p
    rw [val]
    (try simp only [])
    by_cases h2 : (g.nd.getD i nd0).p = 2
    · rw [if_pos h2]
      obtain ⟨q1, q2⟩ := payOK_of hnd i a b
      have e1 := Int.mul_le_mul_of_nonneg_right q1 (Int.le_of_lt hpp)
      have e2 := Int.mul_le_mul_of_nonneg_right q2 (Int.le_of_lt hpp)
      rw [Int.neg_mul] at e1
      exact ⟨e1, e2⟩
    · rw [if_neg h2]
      obtain ⟨d1, d2⟩ := dep_child (f := f) h2
      have hx : g.nd[i]? = some (g.nd.getD i nd0) := by rw [List.getD_eq_getElem?_getD, List.getElem?_eq_getElem hi]; rfl
      have hch := ndOK_child (hnd i _ hx)
      obtain ⟨p', rfl⟩ : ∃ p', p = p' + 1 := ⟨p - 1, by omega⟩
      obtain ⟨q, hq, hql, hq0, hqs⟩ : ∃ q, (if (g.nd.getD i nd0).p = 0 then partsOf g s 0 i a else partsOf g t 1 i b) = q ∧ q.length = (g.nd.getD i nd0).ch.length ∧ (∀ x ∈ q, 0 ≤ x ∧ x ≤ 60) ∧ sumI q = 60 := by
        by_cases h0 : (g.nd.getD i nd0).p = 0
        · rw [if_pos h0]
          obtain ⟨m1, m2, m3⟩ := hs i a hi ha h0
          exact ⟨_, rfl, m1, m2, m3⟩
        · rw [if_neg h0]
          obtain ⟨⟨r1, r2⟩, _⟩ := ndOK_fields (hnd i _ hx)
          obtain ⟨m1, m2, m3⟩ := ht i b hi hb (by omega)
          exact ⟨_, rfl, m1, m2, m3⟩
      rw [hq, zipW_sum _ _ _ hql, Nat.add_sub_cancel]
      have hb := sumI_abs (l := List.range (g.nd.getD i nd0).ch.length) (F := fun k => q.getD k 0 * val g s t f ((g.nd.getD i nd0).ch.getD k 0).toNat a b p') (G := fun k => (100 * pw p') * q.getD k 0) fun k hk => by
        have hk := List.mem_range.1 hk
        have hmem : (g.nd.getD i nd0).ch.getD k 0 ∈ (g.nd.getD i nd0).ch := getD_mem 0 hk
        have h1 := hch _ hmem
        have h3 := d2 _ hmem
        have ih := val_abs hnd hs ht ha hb f ((g.nd.getD i nd0).ch.getD k 0).toNat p' (by omega) (by omega)
        have hqk := hq0 _ (getD_mem 0 (show k < q.length by omega))
        obtain ⟨m1, m2⟩ := mul_abs hqk.1 ih.1 ih.2
        exact ⟨m1, m2⟩
      rw [sumI_map_mul, ← hql, map_getD_range, hqs] at hb
      rw [hql] at hb
      have e : 100 * pw (p' + 1) = 100 * pw p' * 60 := by rw [pw_succ]; omega
      rw [e]; exact hb
end Go.Ab

/- Contracts: parts, the reference's. -/
set_option linter.unusedSimpArgs false
set_option linter.unusedVariables false
namespace Go.Ab
open Go.Proofs

theorem HamI.small {w : List Int} {t : Int} {m : Nat} {p r : List Int} (h : HamI w t m p r) (ht : 0 < t) {i : Nat} (hi : i < w.length) (hw : 0 ≤ w.getD i 0 ∧ w.getD i 0 ≤ 1000000000) : 0 ≤ p.getD i 0 ∧ p.getD i 0 ≤ 100000000000 := by
  have key : -t < t * p.getD i 0 ∧ t * p.getD i 0 < 60 * w.getD i 0 + t := by
    rcases h.each i hi with h1 | h1 <;> omega
  refine ⟨?_, ?_⟩
  · have h1 : t * (-1) < t * p.getD i 0 := by omega
    have := Int.lt_of_mul_lt_mul_left h1 (by omega)
    omega
  · have h1 := Int.mul_le_mul_of_nonneg_right (show (1 : Int) ≤ t by omega) (show 0 ≤ 60 * w.getD i 0 by omega)
    have h2 : t * p.getD i 0 < t * (60 * w.getD i 0 + 1) := by rw [Int.mul_add, Int.mul_one]; omega
    have := Int.lt_of_mul_lt_mul_left h2 (by omega)
    omega
end Go.Ab

/- Contracts: numbers of games. -/
set_option linter.unusedSimpArgs false
set_option linter.unusedVariables false
namespace Go.Ab
open Go.Proofs

def evO (g : Gm) (s t : List (List Int)) : T := .box [nodes g.nd, rows g.w, rows g.v, intsO (ownL g 0), intsO (ownL g 1), rows s, rows t, intsO (parN g.nd g.nd.length)]
def evL (g : Gm) (s t : List (List Int)) : List T := [nodes g.nd, rows g.w, rows g.v, ints (ownL g 0), ints (ownL g 1), rows s, rows t, ints (parN g.nd g.nd.length)]
def evB (g : Gm) (s t : List (List Int)) (c3 c4 : T) (par : List Int) : T := .box [nodes g.nd, rows g.w, rows g.v, c3, c4, rows s, rows t, intsO par]
def evC (g : Gm) (q : Int) (b : Bool) : T := if b = true then intsO (ownL g q) else .v (.slice none 0 0)
theorem parN_step {l : List Nd} {i : Nat} {x : Nd} (hx : l[i]? = some x) : parN l (i + 1) = x.ch.foldl (fun P (c : Int) => P.set c.toNat (i : Int)) (parN l i) := by
  rw [parN, List.getD_eq_getElem?_getD, hx]; rfl
def parK (P ch : List Int) (i k : Nat) : List Int := (ch.take k).foldl (fun P (c : Int) => P.set c.toNat (i : Int)) P
theorem parK_succ {P ch : List Int} {i k m : Nat} (h : ch[k]? = some (m : Int)) : parK P ch i (k + 1) = (parK P ch i k).set m (i : Int) := by
  simp only [parK, take_snoc h, List.foldl_append, List.foldl_cons, List.foldl_nil, Int.toNat_natCast]
theorem parK_length (P ch : List Int) (i k : Nat) : (parK P ch i k).length = P.length := by rw [parK, foldl_set_length]
section
attribute [-go_sem] load1C load1V fldC lenC idxC loadNV nilCheckW
set_option maxRecDepth 20000 in
theorem impl_newEvaluator_ok (g : Gm) (s t : Int × List (List Int)) (hg : isGameB g = true) : Fun Try.prog 179 [] [.t (gameT g), .t (stratT s), .t (stratT t)] fun o r => o = [] ∧ r = evO g s.2 t.2 := by
  obtain ⟨p1, p2, p3, p4, p5⟩ := isGameB_parts hg
  obtain ⟨t1, t2, t3, t4⟩ := isTreeB_spec p1
  have hfl : ∀ q j, (fillN (idxs g.nd q g.nd.length) g.w.length g.nd.length j).length = g.nd.length := fun q j => fillN_length _ _ _ _
  have hfs : ∀ q j (n : Nat), (idxs g.nd q g.nd.length)[j]? = some (n : Int) → fillN (idxs g.nd q g.nd.length) g.w.length g.nd.length (j + 1) = (fillN (idxs g.nd q g.nd.length) g.w.length g.nd.length j).set n ((j * g.w.length : Nat) : Int) := fun q j n h => by
    rw [fillN, List.getD_eq_getElem?_getD, h]; rfl
  have hmul : ∀ n : Nat, n ≤ g.nd.length → n * g.w.length ≤ 60 * 6 := fun n hn => Nat.mul_le_mul (by omega) p2.2
  have hoL : ∀ q, ownL g q = fillN (idxs g.nd q g.nd.length) g.w.length g.nd.length (idxs g.nd q g.nd.length).length := fun q => rfl
  have w1 : IntKind.i64.wrap 1 = 1 := rfl
  have w2' : IntKind.i64.wrap (1 + 1) = 2 := rfl
  refine fun_impl_newEvaluator_h (by simp) ?_
  simp -implicitDefEqProofs only [go_sem, evR, ints, rows, rat, rats, c_impl_newEvaluator_h, gameT, stratT, nodes, made_one]
  refine ⟨by omega, by omega, ?_⟩
  refine SemC.loopR (σ := Nat) (fun q => St.of [(3, .own 3), (7, .own 27), (28, .t (.i q))] [(3, .box [nodes g.nd, rows g.w, rows g.v]), (27, evB g s.2 t.2 (evC g 0 (decide (0 < q))) (evC g 1 (decide (1 < q))) (List.replicate g.nd.length 0))]) (fun q => q ≤ 2) (fun q => 2 - q) 0 (Weak.of _ _ [some 3, some 27] (by simp) (by simp) ?_ ?_) (by omega) fun q hq R hn hr he => ?_
  · simp -implicitDefEqProofs only [ints, rows, Nat.reduceBEq, wkR, Nat.reduceEqDiff, ↓reduceIte, wrR, nodes]
  · refine ⟨⟨_, rfl, .refl _⟩, rfl, ⟨_, rfl, ?_⟩, rfl, trivial⟩
    rw [evB, intsO, List.map_replicate]; exact .refl _
  · match q, hq with
    | 0, _ =>
      simp -implicitDefEqProofs only [go_sem, evR, ints, rows, rat, rats, evB, evC, nodes, intsO, decide_eq_true (show (0 : Int) < 2 by omega), Nat.lt_irrefl, decide_false, Bool.false_eq_true, Int.natCast_zero, Int.cast_ofNat_Int, opR, Nat.reduceBEq]
      refine ⟨by omega, by omega, ?_⟩
      refine CallW.res (impl_nodesOf_t g.nd 0 (by omega)) [] rfl Try.call181 ?_ (.inl rfl) ?_
      · simp -implicitDefEqProofs only [agR, Nat.reduceLeDiff, Nat.reduceSub, vaR, go_sem, ints, rows, rat, rats, ratsO, rtR, intsO, rowsO]
      simp -implicitDefEqProofs only [clR, Nat.reduceLeDiff, go_sem, evR, rat, intsO]
      have hil := idxs_length g.nd 0 g.nd.length
      refine SemC.loopR (σ := Nat) (fun j => St.of [(3, .own 3), (7, .own 27), (8, .t (.i 0)), (28, .t (.i 0)), (44, .own 44), (45, .t (.i (idxs g.nd 0 g.nd.length).length)), (46, .t (.i j))] [(3, .box [nodes g.nd, rows g.w, rows g.v]), (27, evB g s.2 t.2 (intsO (fillN (idxs g.nd 0 g.nd.length) g.w.length g.nd.length j)) (.v (.slice none 0 0)) (List.replicate g.nd.length 0)), (44, intsO (idxs g.nd 0 g.nd.length))]) (fun j => j ≤ (idxs g.nd 0 g.nd.length).length) (fun j => (idxs g.nd 0 g.nd.length).length - j) 0 (Weak.of _ _ [some 3, some 27, some 44] (by simp) (by simp) ?_ ?_) (by omega) fun j hj R2 hn2 hr2 he2 => ?_
      · simp -implicitDefEqProofs only [ints, rows, Nat.reduceBEq, wkR, Nat.reduceEqDiff, ↓reduceIte, wrR, nodes]
      · refine ⟨⟨_, rfl, .refl _⟩, rfl, ⟨_, rfl, ?_⟩, rfl, ⟨_, rfl, .refl _⟩, rfl, trivial⟩
        simp only [evB, fillN, made_one, intsO, List.map_replicate]; exact .refl _
      · rcases Nat.lt_or_ge j (idxs g.nd 0 g.nd.length).length with h9 | h9
        · obtain ⟨y, hy⟩ : ∃ y, (idxs g.nd 0 g.nd.length)[j]? = some y := ⟨_, List.getElem?_eq_getElem h9⟩
          obtain ⟨n, rfl, hn1⟩ := idxs_lt' hy
          have hjm := hmul j (by omega)
          simp -implicitDefEqProofs only [go_sem, evR, ints, rows, rat, rats, evB, nodes, hy, intsO, decide_eq_true (show (j : Int) < ((idxs g.nd 0 g.nd.length).length : Int) by omega), hfl]
          refine ⟨by omega, by omega, by omega, ?_⟩
          refine ⟨_, Weak.open 27 3 500 rfl rfl rfl (by decide) rfl, ?_⟩
          simp -implicitDefEqProofs only [go_sem, evR, ints, rows, rat, rats, opR, Nat.reduceBEq, hfl]
          refine ⟨by omega, by omega, by omega, by omega, hn2 _ (j + 1) (Weak.trans (Weak.close1 27 3 500 rfl rfl (by decide) rfl) (Weak.of _ _ [some 3, some 27, some 44] (by simp) (by simp) ?_ ?_)) (by omega) (by omega)⟩
          · simp -implicitDefEqProofs only [ints, rows, Nat.reduceBEq, wkR, Nat.reduceEqDiff, ↓reduceIte, wrR, nodes, next64 h9 (by omega)]
          · refine ⟨⟨_, rfl, .refl _⟩, rfl, ⟨_, rfl, ?_⟩, rfl, ⟨_, rfl, .refl _⟩, rfl, trivial⟩
            rw [hfs _ _ _ hy]; simp only [evB, intsO, List.map_set]; rw [wrap64 (n := (j : Int) * (g.w.length : Int)) (by omega) (by omega), ← Int.natCast_mul]; exact .refl _
        · have hjl : j = (idxs g.nd 0 g.nd.length).length := by omega
          subst hjl
          simp -implicitDefEqProofs only [go_sem, evR, ints, rows, rat, rats, evB, nodes, intsO, decide_eq_false (show ¬ ((idxs g.nd 0 g.nd.length).length : Int) < ((idxs g.nd 0 g.nd.length).length : Int) by omega)]
          refine he2 _ _ ?_
          simp -implicitDefEqProofs only [go_sem, evR, ints, rows, rat, rats]
          rw [← hoL]
          refine hn _ 1 (Weak.of _ _ [some 3, some 27] (by simp) (by simp) ?_ ?_) (by omega) (by omega)
          · simp -implicitDefEqProofs only [ints, rows, Nat.reduceBEq, wkR, Nat.reduceEqDiff, ↓reduceIte, wrR, nodes, Int.zero_add, w1]
          · exact ⟨⟨_, rfl, .refl _⟩, rfl, ⟨_, rfl, .refl _⟩, rfl, trivial⟩
    | 1, _ =>
      simp -implicitDefEqProofs only [go_sem, evR, ints, rows, rat, rats, evB, evC, nodes, intsO, decide_eq_true (show (1 : Int) < 2 by omega), Nat.lt_irrefl, Nat.zero_lt_one, decide_true, decide_false, Bool.false_eq_true, Int.natCast_zero, Int.cast_ofNat_Int, opR, Nat.reduceBEq]
      refine ⟨by omega, by omega, ?_⟩
      refine CallW.res (impl_nodesOf_t g.nd 1 (by omega)) [] rfl Try.call181 ?_ (.inl rfl) ?_
      · simp -implicitDefEqProofs only [agR, Nat.reduceLeDiff, Nat.reduceSub, vaR, go_sem, ints, rows, rat, rats, ratsO, rtR, intsO, rowsO]
      simp -implicitDefEqProofs only [clR, Nat.reduceLeDiff, go_sem, evR, rat, intsO]
      have hil := idxs_length g.nd 1 g.nd.length
      refine SemC.loopR (σ := Nat) (fun j => St.of [(3, .own 3), (7, .own 27), (8, .t (.i 1)), (28, .t (.i 1)), (44, .own 44), (45, .t (.i (idxs g.nd 1 g.nd.length).length)), (46, .t (.i j))] [(3, .box [nodes g.nd, rows g.w, rows g.v]), (27, evB g s.2 t.2 (intsO (ownL g 0)) (intsO (fillN (idxs g.nd 1 g.nd.length) g.w.length g.nd.length j)) (List.replicate g.nd.length 0)), (44, intsO (idxs g.nd 1 g.nd.length))]) (fun j => j ≤ (idxs g.nd 1 g.nd.length).length) (fun j => (idxs g.nd 1 g.nd.length).length - j) 0 (Weak.of _ _ [some 3, some 27, some 44] (by simp) (by simp) ?_ ?_) (by omega) fun j hj R2 hn2 hr2 he2 => ?_
      · simp -implicitDefEqProofs only [ints, rows, Nat.reduceBEq, wkR, Nat.reduceEqDiff, ↓reduceIte, wrR, nodes]
      · refine ⟨⟨_, rfl, .refl _⟩, rfl, ⟨_, rfl, ?_⟩, rfl, ⟨_, rfl, .refl _⟩, rfl, trivial⟩
        simp only [evB, fillN, made_one, intsO, List.map_replicate]; exact .refl _
      · rcases Nat.lt_or_ge j (idxs g.nd 1 g.nd.length).length with h9 | h9
        · obtain ⟨y, hy⟩ : ∃ y, (idxs g.nd 1 g.nd.length)[j]? = some y := ⟨_, List.getElem?_eq_getElem h9⟩
          obtain ⟨n, rfl, hn1⟩ := idxs_lt' hy
          have hjm := hmul j (by omega)
          simp -implicitDefEqProofs only [go_sem, evR, ints, rows, rat, rats, evB, nodes, hy, intsO, decide_eq_true (show (j : Int) < ((idxs g.nd 1 g.nd.length).length : Int) by omega), hfl]
          refine ⟨by omega, by omega, by omega, ?_⟩
          refine ⟨_, Weak.open 27 4 500 rfl rfl rfl (by decide) rfl, ?_⟩
          simp -implicitDefEqProofs only [go_sem, evR, ints, rows, rat, rats, opR, Nat.reduceBEq, hfl]
          refine ⟨by omega, by omega, by omega, by omega, hn2 _ (j + 1) (Weak.trans (Weak.close1 27 4 500 rfl rfl (by decide) rfl) (Weak.of _ _ [some 3, some 27, some 44] (by simp) (by simp) ?_ ?_)) (by omega) (by omega)⟩
          · simp -implicitDefEqProofs only [ints, rows, Nat.reduceBEq, wkR, Nat.reduceEqDiff, ↓reduceIte, wrR, nodes, next64 h9 (by omega)]
          · refine ⟨⟨_, rfl, .refl _⟩, rfl, ⟨_, rfl, ?_⟩, rfl, ⟨_, rfl, .refl _⟩, rfl, trivial⟩
            rw [hfs _ _ _ hy]; simp only [evB, intsO, List.map_set]; rw [wrap64 (n := (j : Int) * (g.w.length : Int)) (by omega) (by omega), ← Int.natCast_mul]; exact .refl _
        · have hjl : j = (idxs g.nd 1 g.nd.length).length := by omega
          subst hjl
          simp -implicitDefEqProofs only [go_sem, evR, ints, rows, rat, rats, evB, nodes, intsO, decide_eq_false (show ¬ ((idxs g.nd 1 g.nd.length).length : Int) < ((idxs g.nd 1 g.nd.length).length : Int) by omega)]
          refine he2 _ _ ?_
          simp -implicitDefEqProofs only [go_sem, evR, ints, rows, rat, rats]
          rw [← hoL]
          refine hn _ 2 (Weak.of _ _ [some 3, some 27] (by simp) (by simp) ?_ ?_) (by omega) (by omega)
          · simp -implicitDefEqProofs only [ints, rows, Nat.reduceBEq, wkR, Nat.reduceEqDiff, ↓reduceIte, wrR, nodes, w2']
          · exact ⟨⟨_, rfl, .refl _⟩, rfl, ⟨_, rfl, .refl _⟩, rfl, trivial⟩
    | 2, _ =>
      simp -implicitDefEqProofs only [go_sem, evR, ints, rows, rat, rats, evB, evC, nodes, intsO, decide_eq_false (show ¬ (2 : Int) < 2 by omega), Nat.lt_irrefl, decide_false, Bool.false_eq_true, Int.natCast_zero, Int.cast_ofNat_Int]
      refine he _ _ ?_
      simp -implicitDefEqProofs only [go_sem, evR, ints, rows, rat, rats]
      refine SemC.loopR (σ := Nat) (fun i => St.of [(7, .own 27), (68, .t (nodes g.nd)), (69, .t (.i g.nd.length)), (70, .t (.i i))] [(27, evB g s.2 t.2 (intsO (ownL g 0)) (intsO (ownL g 1)) (parN g.nd i))]) (fun i => i ≤ g.nd.length) (fun i => g.nd.length - i) 0 (Weak.of _ _ [some 27] (by simp) (by simp) ?_ ?_) (by omega) fun i hi R3 hn3 hr3 he3 => ?_
      · simp -implicitDefEqProofs only [ints, rows, Nat.reduceBEq, wkR, Nat.reduceEqDiff, ↓reduceIte, wrR, nodes, nd_len]
      · exact ⟨⟨_, rfl, .refl _⟩, rfl, trivial⟩
      · rcases Nat.lt_or_ge i g.nd.length with h9 | h9
        · obtain ⟨x, hx⟩ : ∃ x, g.nd[i]? = some x := ⟨_, List.getElem?_eq_getElem h9⟩
          have hch := ndOK_child (t2 i _ hx)
          obtain ⟨_, _, _, _, _, hch4⟩ := ndOK_fields (t2 i _ hx)
          simp -implicitDefEqProofs only [go_sem, evR, ints, rows, rat, rats, nodes, nd_at hx, decide_eq_true (show (i : Int) < (g.nd.length : Int) by omega), opR, Nat.reduceBEq]
          refine ⟨by omega, by rw [nd_len]; omega, by rw [nd_len]; omega, ?_⟩
          refine SemC.loopR (σ := Nat) (fun k => St.of [(7, .own 27), (11, .t (.i i)), (68, .t (nodes g.nd)), (69, .t (.i g.nd.length)), (70, .t (.i i)), (76, .t (ints x.ch)), (77, .t (.i x.ch.length)), (78, .t (.i k))] [(27, evB g s.2 t.2 (intsO (ownL g 0)) (intsO (ownL g 1)) (parK (parN g.nd i) x.ch i k))]) (fun k => k ≤ x.ch.length) (fun k => x.ch.length - k) 0 (Weak.of _ _ [some 27] (by simp) (by simp) ?_ ?_) (by omega) fun k hk R4 hn4 hr4 he4 => ?_
          · simp -implicitDefEqProofs only [ints, rows, Nat.reduceBEq, wkR, Nat.reduceEqDiff, ↓reduceIte, wrR, nodes]
          · exact ⟨⟨_, rfl, .refl _⟩, rfl, trivial⟩
          · rcases Nat.lt_or_ge k x.ch.length with h10 | h10
            · obtain ⟨c, hc⟩ : ∃ c, x.ch[k]? = some c := ⟨_, List.getElem?_eq_getElem h10⟩
              have hcb := hch c (List.mem_of_getElem? hc)
              obtain ⟨m, rfl⟩ : ∃ m : Nat, c = m := ⟨c.toNat, by omega⟩
              have hpl : (parK (parN g.nd i) x.ch i k).length = g.nd.length := by rw [parK_length, parN_length]
              simp -implicitDefEqProofs only [go_sem, evR, ints, rows, rat, rats, evB, nodes, intsO, hc, decide_eq_true (show (k : Int) < (x.ch.length : Int) by omega), hpl, opR, Nat.reduceBEq]
              refine ⟨by omega, by omega, by omega, by omega, by omega, by omega, hn4 _ (k + 1) (Weak.trans (Weak.close1 27 7 85 rfl rfl (by decide) rfl) (Weak.of _ _ [some 27] (by simp) (by simp) ?_ ?_)) (by omega) (by omega)⟩
              · simp -implicitDefEqProofs only [ints, rows, Nat.reduceBEq, wkR, Nat.reduceEqDiff, ↓reduceIte, wrR, nodes, next64 h10 (show x.ch.length ≤ 1000000000000 by omega)]
              · refine ⟨⟨_, rfl, ?_⟩, rfl, trivial⟩
                rw [parK_succ hc]; simp only [evB, intsO, List.map_set]; exact .refl _
            · simp -implicitDefEqProofs only [go_sem, evR, ints, rows, rat, rats, evB, nodes, intsO, decide_eq_false (show ¬ (k : Int) < (x.ch.length : Int) by omega)]
              refine he4 _ _ ?_
              simp -implicitDefEqProofs only [go_sem, evR, ints, rows, rat, rats]
              refine hn3 _ (i + 1) (Weak.of _ _ [some 27] (by simp) (by simp) ?_ ?_) (by omega) (by omega)
              · simp -implicitDefEqProofs only [ints, rows, Nat.reduceBEq, wkR, Nat.reduceEqDiff, ↓reduceIte, wrR, nodes, next64 h9 (by omega)]
              · refine ⟨⟨_, rfl, ?_⟩, rfl, trivial⟩
                rw [parN_step hx, show k = x.ch.length by omega, parK, List.take_of_length_le (Nat.le_refl _)]; exact .refl _
        · simp -implicitDefEqProofs only [go_sem, evR, ints, rows, rat, rats, nodes, decide_eq_false (show ¬ (i : Int) < (g.nd.length : Int) by omega)]
          refine he3 _ _ ?_
          simp -implicitDefEqProofs only [go_sem, evR, ints, rows, rat, rats, evB]
          rw [show i = g.nd.length by omega]; rfl
end
end Go.Ab
