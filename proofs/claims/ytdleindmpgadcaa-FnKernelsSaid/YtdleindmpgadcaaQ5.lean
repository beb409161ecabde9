/- Contracts: impl.IsMatrix. -/
import Derived.Shelf.SlicesE.Delete
import Derived.Test.YtdleindmpgadcaaProg
import Derived.Test.YtdleindmpgadcaaQ4
set_option linter.unusedSimpArgs false
set_option linter.unusedVariables false
namespace Go.Ab
open Go.Proofs

theorem impl_IsMatrix_ok (m : List (List Int)) (hm : (m.length : Int) ≤ 1000000000000) (hr : ∀ r ∈ m, r.length ≤ 1000000000000) : Pure Try.prog 38 [rows m] (.b (isMat m)) := by
  refine fun_impl_IsMatrix (by simp) ?_
  simp -implicitDefEqProofs only [c_impl_IsMatrix, go_sem, evR, ints, rows, rat, rats]
  refine CallW.pure (impl_within_ok m.length 1 4) [] rfl Try.call67 ?_ trivial rfl ?_
  · simp -implicitDefEqProofs only [vaR, go_sem, ints, rows]
  · simp -implicitDefEqProofs only [go_sem, evR, ints, rows, rat, rats]
    refine ⟨fun h => ?_, fun h => ?_⟩
    · have hlen : 1 ≤ m.length ∧ m.length ≤ 4 := by simp at h; omega
      refine ⟨by omega, by omega, fun r0 h0 => ?_⟩
      have hd0 : m.headD [] = r0 := by cases m <;> simp at h0 ⊢; exact h0
      refine CallW.pure (impl_within_ok r0.length 1 4) [] rfl Try.call67 ?_ trivial rfl ?_
      · simp -implicitDefEqProofs only [vaR, go_sem, ints, rows]
      · simp -implicitDefEqProofs only [go_sem, evR, ints, rows, rat, rats]
        refine ⟨fun h1 => ?_, fun h1 => ?_⟩
        · have : isMat m = false := by
            simp only [isMat, hd0, Bool.and_eq_false_iff, decide_eq_false_iff_not]
            simp at h1; omega
          rw [this]
        · have hw : 1 ≤ r0.length ∧ r0.length ≤ 4 := by simp at h1; omega
          refine CallW.pure (slices_ContainsFunc_ok m hm 68 [.pin [rows m] 0] (fun r => !rowOK r0.length r) Try.call68 (fun r hr' => impl_IsMatrix_1_ok m r r0 h0 (hr r hr'))) [1] rfl Try.call65 ?_ trivial rfl ?_
          · simp -implicitDefEqProofs only [vaR, go_sem, ints, rows]
            refine ⟨by simp, _, rfl, ?_⟩
            have : T.toShL (m.map ints) = m.map ints := by
              rw [T.toShL_eq_map, List.map_map]
              refine List.map_congr_left fun r _ => ?_
              simp only [Function.comp, ints, T.toSh]
            simp only [T.toSh, T.toShL]
          · simp -implicitDefEqProofs only [go_sem, evR, ints, rows, rat, rats]
            have : isMat m = m.all (rowOK r0.length) := by rw [isMat, hd0]; simp [hlen, hw]
            rw [this, List.not_any_eq_all_not]; simp
    · have : isMat m = false := by
        simp only [isMat, Bool.and_eq_false_iff, decide_eq_false_iff_not]
        simp at h; omega
      simp [this]
end Go.Ab

/- Contracts: copies of rows, least and greatest numbers, marks. -/
set_option linter.unusedSimpArgs false
set_option linter.unusedVariables false
namespace Go.Ab
open Go.Proofs

theorem spec_l01Own_ok (l : List Int) (hl : l.length ≤ 1000000000000) : Fun Try.prog 128 [] [.t (ints l)] fun o r => o = [] ∧ r = intsO l := by
  refine fun_spec_l01Own (by simp) ?_
  simp -implicitDefEqProofs only [c_spec_l01Own, ints, go_sem]
  exact ⟨by omega, rfl⟩

theorem slices_Clone_ok (l : List Int) (hl : l.length ≤ 1000000000000) : Fun Try.prog 127 [] [.t (ints l)] fun o r => o = [] ∧ r = intsO l := by
  refine Fun.le (Q := fun o r => o = [] ∧ (r = intsO l ∨ (l = [] ∧ r = .v (.slice none 0 0)))) ?_ ?_
  · refine fun_slices_Clone___int64_int64_ (by simp) ?_
    simp -implicitDefEqProofs only [c_slices_Clone___int64_int64_, ints, go_sem]
    intro b hb
    exact ⟨fun h => .inr (by simpa using hb h), fun _ => ⟨by omega, .inl rfl⟩⟩
  · rintro o r ⟨rfl, rfl | ⟨rfl, rfl⟩⟩
    · exact ⟨_, .refl _, rfl, rfl⟩
    · exact ⟨_, .nilArr 1, rfl, rfl⟩

theorem take_snoc {α : Type} {l : List α} {i : Nat} {x : α} (h : l[i]? = some x) : l.take (i + 1) = l.take i ++ [x] := by
  rw [List.take_add_one, h]; rfl

/-- The marks k, k + 1 .. -/
def marks : Nat → Int → List Int
  | 0, _ => []
  | n + 1, k => k :: marks n (k + 1)
/-- Are the marks there? -/
def held : List Int → Int → Int
  | [], k => k
  | x :: l, k => if x = k then held l (k + 1) else -1
end Go.Ab

/- Contracts: HalvedWeights. -/
set_option linter.unusedSimpArgs false
set_option linter.unusedVariables false
namespace Go.Ab
open Go.Proofs

/-- The greatest number, at least 0. -/
def mx0 (l : List Int) : Int := l.foldl max 0
def half (l : List Int) : List Int := l.map fun x => x / 2
/-- Halved as often as a number is too great. -/
def hvd : Nat → List Int → List Int
  | 0, l => l
  | f + 1, l => if mx0 l ≤ 1000000000 then l else hvd f (half l)

/-- Half way through a halving. -/
def hpart (l : List Int) (i : Nat) : List Int := half (l.take i) ++ l.drop i
def W (f : Nat) : Int := ((2 ^ (29 + f) : Nat) : Int)
/-- What HalvedWeights returns. -/
def hw (l : List Int) : List Int × Int := if 1 ≤ l.length ∧ l.length ≤ 4 ∧ ∀ x ∈ l, 0 ≤ x then (hvd 34 l, 0) else ([], 2)
end Go.Ab


/- Contracts: ratios. -/
set_option linter.unusedSimpArgs false
set_option linter.unusedVariables false
namespace Go.Ab
open Go.Proofs

theorem tmod_nat (a b : Nat) : ((a : Int).tmod (b : Int)) = ((a % b : Nat) : Int) := by
  rw [Int.tmod_eq_emod_of_nonneg (by omega)]; rfl

theorem spec_l01Gcd_ok : ∀ (b a : Nat), a < 9223372036854775808 → b < 9223372036854775808 → Pure Try.prog 109 [.i a, .i b] (.i (Nat.gcd a b)) := by
  intro b
  induction b using Nat.strongRecOn with
  | _ b ih =>
    intro a ha hb
    refine fun_spec_l01Gcd (by simp) ?_
    simp -implicitDefEqProofs only [go_sem, evR, ints, rows, rat, rats, c_spec_l01Gcd]
    refine ⟨fun h => ?_, fun h => ?_⟩
    · have : b = 0 := by simpa using h
      subst this
      simp
    · have h0 : b ≠ 0 := by simpa using h
      refine ⟨by omega, ?_⟩
      rw [tmod_nat]
      have hlt : a % b < b := Nat.mod_lt _ (by omega)
      refine CallW.pure (ih (a % b) hlt b hb (by omega)) [] rfl Try.call109 ?_ (by first | trivial | simp [T.noSh, T.noShL, rat]) rfl ?_
      · simp -implicitDefEqProofs only [agR, Nat.reduceLeDiff, Nat.reduceSub, vaR, go_sem, ints, rows, rat, rats, ratsO, rtR, intsO, rowsO]
      simp -implicitDefEqProofs only [go_sem, evR, ints, rows, rat, rats]
      rw [Nat.gcd_comm a b, Nat.gcd_rec b a, Nat.gcd_comm]

theorem impl_divisorOf_ok (a b : Nat) (ha : a < 9223372036854775808) (hb : b < 9223372036854775808) : Pure Try.prog 112 [.i a, .i b] (.i (Nat.gcd a b)) := by
  refine fun_impl_divisorOf (by simp) ?_
  simp -implicitDefEqProofs only [go_sem, evR, ints, rows, rat, rats, c_impl_divisorOf]
  refine SemC.loopR (σ := Nat × Nat) (fun s => St.of [(0, .t (.i s.1)), (1, .t (.i s.2))] []) (fun s => s.1 < 9223372036854775808 ∧ s.2 < 9223372036854775808 ∧ Nat.gcd s.1 s.2 = Nat.gcd a b) (fun s => s.2) (a, b) (Weak.of _ [] [] (by simp) (by simp) ?_ trivial) ⟨ha, hb, rfl⟩ fun s hI R hn hr he => ?_
  · simp -implicitDefEqProofs only [ints, rows, wkR, Nat.reduceEqDiff, ↓reduceIte]
  · obtain ⟨x, y⟩ := s
    obtain ⟨hx, hy, hg⟩ := hI
    (try simp only [] at hx hy hg)
    simp -implicitDefEqProofs only [go_sem, evR, ints, rows, rat, rats]
    refine ⟨fun h => ⟨by omega, ?_⟩, fun h => he _ _ ?_⟩
    · have hlt : x % y < y := Nat.mod_lt _ (by omega)
      refine hn _ (y, x % y) (Weak.of _ [] [] (by simp) (by simp) ?_ trivial) ⟨hy, by simp only []; omega, ?_⟩ hlt
      · simp -implicitDefEqProofs only [ints, rows, wkR, Nat.reduceEqDiff, ↓reduceIte, tmod_nat]
      · simp only []
        rw [← hg, Nat.gcd_comm x y, Nat.gcd_rec y x, Nat.gcd_comm]
    · simp -implicitDefEqProofs only [go_sem, evR, ints, rows, rat, rats]
      have : y = 0 := by omega
      subst this
      simp only [Nat.gcd_zero_right] at hg
      rw [hg]

/-- The greatest common divisor, and which pairs are ratios. -/
def gcdI (n d : Int) : Nat := Nat.gcd n.natAbs d.natAbs
def isRat (r : Int × Int) : Bool := decide (-1000000000 ≤ r.1 ∧ r.1 ≤ 1000000000) && decide (1 ≤ r.2 ∧ r.2 ≤ 1000000000) && decide (gcdI r.1 r.2 = 1)

theorem spec_l01Abs_ok (n : Int) (h0 : -9223372036854775808 < n) (h1 : n < 9223372036854775808) : Pure Try.prog 110 [.i n] (.i n.natAbs) := by
  refine fun_spec_l01Abs (by simp) ?_
  simp -implicitDefEqProofs only [go_sem, evR, ints, rows, rat, rats, c_spec_l01Abs]
  rw [wrap64 (by omega) (by omega)]
  congr 1; congr 1; omega
theorem impl_absOf_ok (n : Int) (h0 : -9223372036854775808 < n) (h1 : n < 9223372036854775808) : Pure Try.prog 113 [.i n] (.i n.natAbs) := by
  refine fun_impl_absOf (by simp) ?_
  simp -implicitDefEqProofs only [go_sem, evR, ints, rows, rat, rats, c_impl_absOf]
  rw [wrap64 (by omega) (by omega)]
  refine ⟨fun h => ?_, fun h => ?_⟩ <;> (congr 1; congr 1; omega)

theorem spec_gcdI_ok (a b : Int) (a0 : 0 ≤ a) (a1 : a < 9223372036854775808) (b0 : 0 ≤ b) (b1 : b < 9223372036854775808) : Pure Try.prog 109 [.i a, .i b] (.i (gcdI a b)) := by
  have h := spec_l01Gcd_ok b.natAbs a.natAbs (by omega) (by omega)
  rw [show ((a.natAbs : Nat) : Int) = a by omega, show ((b.natAbs : Nat) : Int) = b by omega] at h
  exact h
theorem impl_gcdI_ok (a b : Int) (a0 : 0 ≤ a) (a1 : a < 9223372036854775808) (b0 : 0 ≤ b) (b1 : b < 9223372036854775808) : Pure Try.prog 112 [.i a, .i b] (.i (gcdI a b)) := by
  have h := impl_divisorOf_ok a.natAbs b.natAbs (by omega) (by omega)
  rw [show ((a.natAbs : Nat) : Int) = a by omega, show ((b.natAbs : Nat) : Int) = b by omega] at h
  exact h
theorem gcdI_abs (n d : Int) : gcdI n.natAbs d = gcdI n d := by simp [gcdI]
theorem gcdI_dvd_left (n d : Int) : (gcdI n d : Int) ∣ n := by
  have := Nat.gcd_dvd_left n.natAbs d.natAbs
  exact Int.ofNat_dvd_left.2 this
theorem gcdI_dvd_right (n d : Int) : (gcdI n d : Int) ∣ d := by
  have := Nat.gcd_dvd_right n.natAbs d.natAbs
  exact Int.ofNat_dvd_left.2 this
theorem gcdI_pos (n d : Int) (h : 0 < d) : 0 < gcdI n d := Nat.gcd_pos_of_pos_right _ (by omega)

/-- The ratio of two numbers, and the code. -/
def redR (n d : Int) : (Int × Int) × Int :=
  if isRat (n.tdiv (gcdI n d), d.tdiv (gcdI n d)) then ((n.tdiv (gcdI n d), d.tdiv (gcdI n d)), 0) else ((0, 0), 3)
def redT (x : (Int × Int) × Int) : T := .tup [rat x.1, .i x.2]
theorem tdiv_fits {n : Int} {g : Nat} (h0 : -9223372036854775808 < n) (h1 : n < 9223372036854775808) : IntKind.i64.wrap (n.tdiv (g : Int)) = n.tdiv (g : Int) := by
  have h2 : (n.tdiv (g : Int)).natAbs ≤ n.natAbs := by
    rw [Int.natAbs_tdiv]; exact Nat.div_le_self _ _
  exact wrap64 (by omega) (by omega)
theorem spec_IsRatio_ok (r : Int × Int) : Pure Try.prog 94 [rat r] (.b (isRat r)) := by
  obtain ⟨n, d⟩ := r
  refine fun_spec_IsRatio (by simp) ?_
  simp -implicitDefEqProofs only [go_sem, evR, ints, rows, rat, rats, c_spec_IsRatio]
  refine CallV.pure (spec_l01In_ok n (-1000000000) 1000000000) [] rfl Try.call70 (fun e R' hR => ?_) (by first | trivial | simp [T.noSh, T.noShL, rat]) (fun _ => rfl) ?_
  · simp -implicitDefEqProofs only [agR, Nat.reduceLeDiff, Nat.reduceSub, vaR, go_sem, ints, rows, rat, rats, ratsO, rtR, intsO, rowsO]
  simp -implicitDefEqProofs only [go_sem, evR, ints, rows, rat, rats]
  refine ⟨fun h1 h2 => ?_, fun h1 => ?_⟩
  · refine CallV.pure (spec_l01In_ok d 1 1000000000) [] rfl Try.call70 (fun e R' hR => ?_) (by first | trivial | simp [T.noSh, T.noShL, rat]) (fun _ => rfl) ?_
    · simp -implicitDefEqProofs only [agR, Nat.reduceLeDiff, Nat.reduceSub, vaR, go_sem, ints, rows, rat, rats, ratsO, rtR, intsO, rowsO]
    simp -implicitDefEqProofs only [go_sem, evR, ints, rows, rat, rats]
    refine ⟨fun h3 h4 => ?_, fun h3 => ?_⟩
    · refine CallV.pure (spec_l01Abs_ok n (by omega) (by omega)) [] rfl Try.call110 (fun e R' hR => ?_) (by first | trivial | simp [T.noSh, T.noShL, rat]) (fun _ => rfl) ?_
      · simp -implicitDefEqProofs only [agR, Nat.reduceLeDiff, Nat.reduceSub, vaR, go_sem, ints, rows, rat, rats, ratsO, rtR, intsO, rowsO]
      simp -implicitDefEqProofs only [go_sem, evR, ints, rows, rat, rats]
      refine CallV.pure (spec_gcdI_ok n.natAbs d (by omega) (by omega) (by omega) (by omega)) [] rfl Try.call109 (fun e R' hR => ?_) (by first | trivial | simp [T.noSh, T.noShL, rat]) (fun _ => rfl) ?_
      · simp -implicitDefEqProofs only [agR, Nat.reduceLeDiff, Nat.reduceSub, vaR, go_sem, ints, rows, rat, rats, ratsO, rtR, intsO, rowsO]
      simp -implicitDefEqProofs only [go_sem, evR, ints, rows, rat, rats, gcdI_abs]
      rw [isRat, decide_eq_true ⟨h1, h2⟩, decide_eq_true ⟨h3, h4⟩]
      by_cases h : gcdI n d = 1 <;> simp [h]
      omega
    · rw [isRat, decide_eq_false (p := 1 ≤ d ∧ d ≤ 1000000000) (by omega)]; simp
  · rw [isRat, decide_eq_false (p := -1000000000 ≤ n ∧ n ≤ 1000000000) (by omega)]; simp

theorem impl_IsRatio_ok (r : Int × Int) : Pure Try.prog 88 [rat r] (.b (isRat r)) := by
  obtain ⟨n, d⟩ := r
  refine fun_impl_IsRatio (by simp) ?_
  simp -implicitDefEqProofs only [go_sem, evR, ints, rows, rat, rats, c_impl_IsRatio]
  refine CallV.pure (impl_within_ok n (-1000000000) 1000000000) [] rfl Try.call67 (fun e R' hR => ?_) (by first | trivial | simp [T.noSh, T.noShL, rat]) (fun _ => rfl) ?_
  · simp -implicitDefEqProofs only [agR, Nat.reduceLeDiff, Nat.reduceSub, vaR, go_sem, ints, rows, rat, rats, ratsO, rtR, intsO, rowsO]
  simp -implicitDefEqProofs only [go_sem, evR, ints, rows, rat, rats]
  refine ⟨fun h1 h2 => ?_, fun h1 => ?_⟩
  · refine CallV.pure (impl_within_ok d 1 1000000000) [] rfl Try.call67 (fun e R' hR => ?_) (by first | trivial | simp [T.noSh, T.noShL, rat]) (fun _ => rfl) ?_
    · simp -implicitDefEqProofs only [agR, Nat.reduceLeDiff, Nat.reduceSub, vaR, go_sem, ints, rows, rat, rats, ratsO, rtR, intsO, rowsO]
    simp -implicitDefEqProofs only [go_sem, evR, ints, rows, rat, rats]
    refine ⟨fun h3 h4 => ?_, fun h3 => ?_⟩
    · refine CallV.pure (impl_absOf_ok n (by omega) (by omega)) [] rfl Try.call113 (fun e R' hR => ?_) (by first | trivial | simp [T.noSh, T.noShL, rat]) (fun _ => rfl) ?_
      · simp -implicitDefEqProofs only [agR, Nat.reduceLeDiff, Nat.reduceSub, vaR, go_sem, ints, rows, rat, rats, ratsO, rtR, intsO, rowsO]
      simp -implicitDefEqProofs only [go_sem, evR, ints, rows, rat, rats]
      refine CallV.pure (impl_gcdI_ok n.natAbs d (by omega) (by omega) (by omega) (by omega)) [] rfl Try.call112 (fun e R' hR => ?_) (by first | trivial | simp [T.noSh, T.noShL, rat]) (fun _ => rfl) ?_
      · simp -implicitDefEqProofs only [agR, Nat.reduceLeDiff, Nat.reduceSub, vaR, go_sem, ints, rows, rat, rats, ratsO, rtR, intsO, rowsO]
      simp -implicitDefEqProofs only [go_sem, evR, ints, rows, rat, rats, gcdI_abs]
      rw [isRat, decide_eq_true ⟨h1, h2⟩, decide_eq_true ⟨h3, h4⟩]
      by_cases h : gcdI n d = 1 <;> simp [h]
      omega
    · rw [isRat, decide_eq_false (p := 1 ≤ d ∧ d ≤ 1000000000) (by omega)]; simp
  · rw [isRat, decide_eq_false (p := -1000000000 ≤ n ∧ n ≤ 1000000000) (by omega)]; simp

theorem spec_l01Ratio_ok (n d : Int) (n0 : -9223372036854775808 < n) (n1 : n < 9223372036854775808) (d0 : 0 < d) (d1 : d < 9223372036854775808) : Fun Try.prog 85 [] [.t (.i n), .t (.i d)] fun o r => o = [] ∧ r = redT (redR n d) := by
  refine fun_spec_l01Ratio (by simp) ?_
  simp -implicitDefEqProofs only [go_sem, evR, ints, rows, rat, rats, c_spec_l01Ratio]
  refine CallW.pure (spec_l01Abs_ok n n0 n1) [] rfl Try.call110 ?_ (by first | trivial | simp [T.noSh, T.noShL, rat]) rfl ?_
  · simp -implicitDefEqProofs only [agR, Nat.reduceLeDiff, Nat.reduceSub, vaR, go_sem, ints, rows, rat, rats, ratsO, rtR, intsO, rowsO]
  simp -implicitDefEqProofs only [go_sem, evR, ints, rows, rat, rats]
  refine CallW.pure (spec_gcdI_ok n.natAbs d (by omega) (by omega) (by omega) d1) [] rfl Try.call109 ?_ (by first | trivial | simp [T.noSh, T.noShL, rat]) rfl ?_
  · simp -implicitDefEqProofs only [agR, Nat.reduceLeDiff, Nat.reduceSub, vaR, go_sem, ints, rows, rat, rats, ratsO, rtR, intsO, rowsO]
  simp -implicitDefEqProofs only [go_sem, evR, ints, rows, rat, rats, gcdI_abs]
  have hg := gcdI_pos n d d0
  refine ⟨by omega, by omega, ?_⟩
  rw [tdiv_fits n0 n1, tdiv_fits (by omega) d1]
  refine CallW.pure (spec_IsRatio_ok (n.tdiv (gcdI n d), d.tdiv (gcdI n d))) [] rfl Try.call94 ?_ (by first | trivial | simp [T.noSh, T.noShL, rat]) rfl ?_
  · simp -implicitDefEqProofs only [agR, Nat.reduceLeDiff, Nat.reduceSub, vaR, go_sem, ints, rows, rat, rats, ratsO, rtR, intsO, rowsO]
  simp -implicitDefEqProofs only [go_sem, evR, ints, rows, rat, rats]
  rw [redR]
  refine ⟨fun h => ?_, fun h => ?_⟩
  · rw [if_neg (by simpa using h)]; rfl
  · rw [if_pos (by simpa using h)]; rfl

theorem impl_reduced_ok (n d : Int) (n0 : -9223372036854775808 < n) (n1 : n < 9223372036854775808) (d0 : 0 < d) (d1 : d < 9223372036854775808) : Fun Try.prog 119 [] [.t (.i n), .t (.i d)] fun o r => o = [] ∧ r = redT (redR n d) := by
  refine fun_impl_reduced (by simp) ?_
  simp -implicitDefEqProofs only [go_sem, evR, ints, rows, rat, rats, c_impl_reduced]
  refine CallW.pure (impl_absOf_ok n n0 n1) [] rfl Try.call113 ?_ (by first | trivial | simp [T.noSh, T.noShL, rat]) rfl ?_
  · simp -implicitDefEqProofs only [agR, Nat.reduceLeDiff, Nat.reduceSub, vaR, go_sem, ints, rows, rat, rats, ratsO, rtR, intsO, rowsO]
  simp -implicitDefEqProofs only [go_sem, evR, ints, rows, rat, rats]
  refine CallW.pure (impl_gcdI_ok n.natAbs d (by omega) (by omega) (by omega) d1) [] rfl Try.call112 ?_ (by first | trivial | simp [T.noSh, T.noShL, rat]) rfl ?_
  · simp -implicitDefEqProofs only [agR, Nat.reduceLeDiff, Nat.reduceSub, vaR, go_sem, ints, rows, rat, rats, ratsO, rtR, intsO, rowsO]
  simp -implicitDefEqProofs only [go_sem, evR, ints, rows, rat, rats, gcdI_abs]
  have hg := gcdI_pos n d d0
  refine ⟨by omega, by omega, ?_⟩
  rw [tdiv_fits n0 n1, tdiv_fits (by omega) d1]
  refine CallW.pure (impl_IsRatio_ok (n.tdiv (gcdI n d), d.tdiv (gcdI n d))) [] rfl Try.call88 ?_ (by first | trivial | simp [T.noSh, T.noShL, rat]) rfl ?_
  · simp -implicitDefEqProofs only [agR, Nat.reduceLeDiff, Nat.reduceSub, vaR, go_sem, ints, rows, rat, rats, ratsO, rtR, intsO, rowsO]
  simp -implicitDefEqProofs only [go_sem, evR, ints, rows, rat, rats]
  rw [redR]
  refine ⟨fun h => ?_, fun h => ?_⟩
  · rw [if_neg (by simpa using h)]; rfl
  · rw [if_pos (by simpa using h)]; rfl

end Go.Ab

/- Contracts: sums and products of ratios. -/
set_option linter.unusedSimpArgs false
set_option linter.unusedVariables false
namespace Go.Ab
open Go.Proofs

def addR (a b : Int × Int) : (Int × Int) × Int := if isRat a && isRat b then redR (a.1 * b.2 + b.1 * a.2) (a.2 * b.2) else ((0, 0), 1)
def mulR (a b : Int × Int) : (Int × Int) × Int := if isRat a && isRat b then redR (a.1 * b.1) (a.2 * b.2) else ((0, 0), 1)

theorem isRat_spec {r : Int × Int} (h : isRat r = true) : -1000000000 ≤ r.1 ∧ r.1 ≤ 1000000000 ∧ 1 ≤ r.2 ∧ r.2 ≤ 1000000000 := by
  simp only [isRat, Bool.and_eq_true, decide_eq_true_eq] at h
  omega
theorem mul_bound' {a b : Int} (h1 : -1000000000 ≤ a) (h2 : a ≤ 1000000000) (h3 : -1000000000 ≤ b) (h4 : b ≤ 1000000000) : -1000000000000000000 ≤ a * b ∧ a * b ≤ 1000000000000000000 := by
  have h : (a * b).natAbs ≤ 1000000000 * 1000000000 := by
    rw [Int.natAbs_mul]; exact Nat.mul_le_mul (by omega) (by omega)
  omega
theorem mul_bound {a b : Int} (h1 : -1000000000 ≤ a) (h2 : a ≤ 1000000000) (h3 : 1 ≤ b) (h4 : b ≤ 1000000000) : -1000000000000000000 ≤ a * b ∧ a * b ≤ 1000000000000000000 := mul_bound' h1 h2 (by omega) h4
theorem mul_pos' {a b : Int} (h1 : 1 ≤ a) (h2 : 1 ≤ b) : 0 < a * b := Int.mul_pos (by omega) (by omega)

theorem spec_AddRatios_ok (a b : Int × Int) : Fun Try.prog 124 [] [.t (rat a), .t (rat b)] fun o r => o = [] ∧ r = redT (addR a b) := by
  obtain ⟨an, ad⟩ := a
  obtain ⟨bn, bd⟩ := b
  refine fun_spec_AddRatios (by simp) ?_
  simp -implicitDefEqProofs only [go_sem, evR, ints, rows, rat, rats, c_spec_AddRatios]
  refine CallW.pure (spec_IsRatio_ok (an, ad)) [] rfl Try.call94 ?_ (by first | trivial | simp [T.noSh, T.noShL, rat]) rfl ?_
  · simp -implicitDefEqProofs only [agR, Nat.reduceLeDiff, Nat.reduceSub, vaR, go_sem, ints, rows, rat, rats, ratsO, rtR, intsO, rowsO]
  simp -implicitDefEqProofs only [go_sem, evR, ints, rows, rat, rats]
  refine ⟨fun h1 => ?_, fun h1 => ?_⟩
  · have h1 : isRat (an, ad) = true := by simpa using h1
    refine CallW.pure (spec_IsRatio_ok (bn, bd)) [] rfl Try.call94 ?_ (by first | trivial | simp [T.noSh, T.noShL, rat]) rfl ?_
    · simp -implicitDefEqProofs only [agR, Nat.reduceLeDiff, Nat.reduceSub, vaR, go_sem, ints, rows, rat, rats, ratsO, rtR, intsO, rowsO]
    simp -implicitDefEqProofs only [go_sem, evR, ints, rows, rat, rats]
    refine ⟨fun h2 => ?_, fun h2 => ?_⟩
    · rw [addR, if_neg (by simp at h2; simp [h2])]; rfl
    · have h2 : isRat (bn, bd) = true := by simpa using h2
      obtain ⟨a1, a2, a3, a4⟩ := isRat_spec h1
      obtain ⟨b1, b2, b3, b4⟩ := isRat_spec h2
      (try simp only [] at a1 a2 a3 a4 b1 b2 b3 b4)
      have p1 := mul_bound a1 a2 b3 b4
      have p2 := mul_bound b1 b2 a3 a4
      have p3 := mul_bound (show -1000000000 ≤ ad by omega) a4 b3 b4
      have p4 := mul_pos' a3 b3
      rw [wrap64 (n := an * bd) (by omega) (by omega), wrap64 (n := bn * ad) (by omega) (by omega), wrap64 (n := ad * bd) (by omega) (by omega), wrap64 (n := an * bd + bn * ad) (by omega) (by omega)]
      refine CallW.res (spec_l01Ratio_ok (an * bd + bn * ad) (ad * bd) (by omega) (by omega) (by omega) (by omega)) [] rfl Try.call85 ?_ (.inl rfl) ?_
      · simp -implicitDefEqProofs only [agR, Nat.reduceLeDiff, Nat.reduceSub, vaR, go_sem, ints, rows, rat, rats, ratsO, rtR, intsO, rowsO]
      simp -implicitDefEqProofs only [clR, Nat.reduceLeDiff, go_sem, evR, rat, redT, rat]
      rw [addR, if_pos (by simp [h1, h2])]
  · rw [addR, if_neg (by simp at h1; simp [h1])]; rfl

theorem impl_AddRatios_ok (a b : Int × Int) : Fun Try.prog 111 [] [.t (rat a), .t (rat b)] fun o r => o = [] ∧ r = redT (addR a b) := by
  obtain ⟨an, ad⟩ := a
  obtain ⟨bn, bd⟩ := b
  refine fun_impl_AddRatios (by simp) ?_
  simp -implicitDefEqProofs only [go_sem, evR, ints, rows, rat, rats, c_impl_AddRatios]
  refine CallW.pure (impl_IsRatio_ok (an, ad)) [] rfl Try.call88 ?_ (by first | trivial | simp [T.noSh, T.noShL, rat]) rfl ?_
  · simp -implicitDefEqProofs only [agR, Nat.reduceLeDiff, Nat.reduceSub, vaR, go_sem, ints, rows, rat, rats, ratsO, rtR, intsO, rowsO]
  simp -implicitDefEqProofs only [go_sem, evR, ints, rows, rat, rats]
  refine ⟨fun h1 => ?_, fun h1 => ?_⟩
  · have h1 : isRat (an, ad) = true := by simpa using h1
    refine CallW.pure (impl_IsRatio_ok (bn, bd)) [] rfl Try.call88 ?_ (by first | trivial | simp [T.noSh, T.noShL, rat]) rfl ?_
    · simp -implicitDefEqProofs only [agR, Nat.reduceLeDiff, Nat.reduceSub, vaR, go_sem, ints, rows, rat, rats, ratsO, rtR, intsO, rowsO]
    simp -implicitDefEqProofs only [go_sem, evR, ints, rows, rat, rats]
    refine ⟨fun h2 => ?_, fun h2 => ?_⟩
    · rw [addR, if_neg (by simp at h2; simp [h2])]; rfl
    · have h2 : isRat (bn, bd) = true := by simpa using h2
      obtain ⟨a1, a2, a3, a4⟩ := isRat_spec h1
      obtain ⟨b1, b2, b3, b4⟩ := isRat_spec h2
      (try simp only [] at a1 a2 a3 a4 b1 b2 b3 b4)
      have p1 := mul_bound a1 a2 b3 b4
      have p2 := mul_bound b1 b2 a3 a4
      have p3 := mul_bound (show -1000000000 ≤ ad by omega) a4 b3 b4
      have p4 := mul_pos' a3 b3
      rw [wrap64 (n := an * bd) (by omega) (by omega), wrap64 (n := bn * ad) (by omega) (by omega), wrap64 (n := ad * bd) (by omega) (by omega), wrap64 (n := an * bd + bn * ad) (by omega) (by omega)]
      refine CallW.res (impl_reduced_ok (an * bd + bn * ad) (ad * bd) (by omega) (by omega) (by omega) (by omega)) [] rfl Try.call119 ?_ (.inl rfl) ?_
      · simp -implicitDefEqProofs only [agR, Nat.reduceLeDiff, Nat.reduceSub, vaR, go_sem, ints, rows, rat, rats, ratsO, rtR, intsO, rowsO]
      simp -implicitDefEqProofs only [clR, Nat.reduceLeDiff, go_sem, evR, rat, redT, rat]
      rw [addR, if_pos (by simp [h1, h2])]
  · rw [addR, if_neg (by simp at h1; simp [h1])]; rfl

theorem spec_MultiplyRatios_ok (a b : Int × Int) : Fun Try.prog 129 [] [.t (rat a), .t (rat b)] fun o r => o = [] ∧ r = redT (mulR a b) := by
  obtain ⟨an, ad⟩ := a
  obtain ⟨bn, bd⟩ := b
  refine fun_spec_MultiplyRatios (by simp) ?_
  simp -implicitDefEqProofs only [go_sem, evR, ints, rows, rat, rats, c_spec_MultiplyRatios]
  refine CallW.pure (spec_IsRatio_ok (an, ad)) [] rfl Try.call94 ?_ (by first | trivial | simp [T.noSh, T.noShL, rat]) rfl ?_
  · simp -implicitDefEqProofs only [agR, Nat.reduceLeDiff, Nat.reduceSub, vaR, go_sem, ints, rows, rat, rats, ratsO, rtR, intsO, rowsO]
  simp -implicitDefEqProofs only [go_sem, evR, ints, rows, rat, rats]
  refine ⟨fun h1 => ?_, fun h1 => ?_⟩
  · have h1 : isRat (an, ad) = true := by simpa using h1
    refine CallW.pure (spec_IsRatio_ok (bn, bd)) [] rfl Try.call94 ?_ (by first | trivial | simp [T.noSh, T.noShL, rat]) rfl ?_
    · simp -implicitDefEqProofs only [agR, Nat.reduceLeDiff, Nat.reduceSub, vaR, go_sem, ints, rows, rat, rats, ratsO, rtR, intsO, rowsO]
    simp -implicitDefEqProofs only [go_sem, evR, ints, rows, rat, rats]
    refine ⟨fun h2 => ?_, fun h2 => ?_⟩
    · rw [mulR, if_neg (by simp at h2; simp [h2])]; rfl
    · have h2 : isRat (bn, bd) = true := by simpa using h2
      obtain ⟨a1, a2, a3, a4⟩ := isRat_spec h1
      obtain ⟨b1, b2, b3, b4⟩ := isRat_spec h2
      (try simp only [] at a1 a2 a3 a4 b1 b2 b3 b4)
      have p1 := mul_bound' a1 a2 b1 b2
      have p3 := mul_bound (show -1000000000 ≤ ad by omega) a4 b3 b4
      have p4 := mul_pos' a3 b3
      rw [wrap64 (n := an * bn) (by omega) (by omega), wrap64 (n := ad * bd) (by omega) (by omega)]
      refine CallW.res (spec_l01Ratio_ok (an * bn) (ad * bd) (by omega) (by omega) (by omega) (by omega)) [] rfl Try.call85 ?_ (.inl rfl) ?_
      · simp -implicitDefEqProofs only [agR, Nat.reduceLeDiff, Nat.reduceSub, vaR, go_sem, ints, rows, rat, rats, ratsO, rtR, intsO, rowsO]
      simp -implicitDefEqProofs only [clR, Nat.reduceLeDiff, go_sem, evR, rat, redT, rat]
      rw [mulR, if_pos (by simp [h1, h2])]
  · rw [mulR, if_neg (by simp at h1; simp [h1])]; rfl

theorem impl_MultiplyRatios_ok (a b : Int × Int) : Fun Try.prog 122 [] [.t (rat a), .t (rat b)] fun o r => o = [] ∧ r = redT (mulR a b) := by
  obtain ⟨an, ad⟩ := a
  obtain ⟨bn, bd⟩ := b
  refine fun_impl_MultiplyRatios (by simp) ?_
  simp -implicitDefEqProofs only [go_sem, evR, ints, rows, rat, rats, c_impl_MultiplyRatios]
  refine CallW.pure (impl_IsRatio_ok (an, ad)) [] rfl Try.call88 ?_ (by first | trivial | simp [T.noSh, T.noShL, rat]) rfl ?_
  · simp -implicitDefEqProofs only [agR, Nat.reduceLeDiff, Nat.reduceSub, vaR, go_sem, ints, rows, rat, rats, ratsO, rtR, intsO, rowsO]
  simp -implicitDefEqProofs only [go_sem, evR, ints, rows, rat, rats]
  refine ⟨fun h1 => ?_, fun h1 => ?_⟩
  · have h1 : isRat (an, ad) = true := by simpa using h1
    refine CallW.pure (impl_IsRatio_ok (bn, bd)) [] rfl Try.call88 ?_ (by first | trivial | simp [T.noSh, T.noShL, rat]) rfl ?_
    · simp -implicitDefEqProofs only [agR, Nat.reduceLeDiff, Nat.reduceSub, vaR, go_sem, ints, rows, rat, rats, ratsO, rtR, intsO, rowsO]
    simp -implicitDefEqProofs only [go_sem, evR, ints, rows, rat, rats]
    refine ⟨fun h2 => ?_, fun h2 => ?_⟩
    · rw [mulR, if_neg (by simp at h2; simp [h2])]; rfl
    · have h2 : isRat (bn, bd) = true := by simpa using h2
      obtain ⟨a1, a2, a3, a4⟩ := isRat_spec h1
      obtain ⟨b1, b2, b3, b4⟩ := isRat_spec h2
      (try simp only [] at a1 a2 a3 a4 b1 b2 b3 b4)
      have p1 := mul_bound' a1 a2 b1 b2
      have p3 := mul_bound (show -1000000000 ≤ ad by omega) a4 b3 b4
      have p4 := mul_pos' a3 b3
      rw [wrap64 (n := an * bn) (by omega) (by omega), wrap64 (n := ad * bd) (by omega) (by omega)]
      refine CallW.res (impl_reduced_ok (an * bn) (ad * bd) (by omega) (by omega) (by omega) (by omega)) [] rfl Try.call119 ?_ (.inl rfl) ?_
      · simp -implicitDefEqProofs only [agR, Nat.reduceLeDiff, Nat.reduceSub, vaR, go_sem, ints, rows, rat, rats, ratsO, rtR, intsO, rowsO]
      simp -implicitDefEqProofs only [clR, Nat.reduceLeDiff, go_sem, evR, rat, redT, rat]
      rw [mulR, if_pos (by simp [h1, h2])]
  · rw [mulR, if_neg (by simp at h1; simp [h1])]; rfl
end Go.Ab

/- Contracts: steps with a code. -/
set_option linter.unusedSimpArgs false
set_option linter.unusedVariables false
namespace Go.Ab
open Go.Proofs

/-- A step: nothing is done behind an error. -/
def stepA (c : Int) (a b : Int × Int) : (Int × Int) × Int := if c ≠ 0 then ((0, 1), c) else addR a b
def stepM (c : Int) (a b : Int × Int) : (Int × Int) × Int := if c ≠ 0 then ((0, 1), c) else mulR a b

theorem spec_l19Whole_ok (n : Int) : Pure Try.prog 86 [.i n] (rat (n, 1)) := by
  refine fun_spec_l19Whole (by simp) ?_
  simp -implicitDefEqProofs only [go_sem, evR, ints, rows, rat, rats, c_spec_l19Whole]

theorem spec_l19Add_ok (c : Int) (a b : Int × Int) : Fun Try.prog 116 [.box [.i c]] [.own 1000000000, .t (rat a), .t (rat b)] fun o r => o = [.box [.i (stepA c a b).2]] ∧ r = rat (stepA c a b).1 := by
  refine fun_spec_l19Add (by simp) ?_
  simp -implicitDefEqProofs only [go_sem, evR, ints, rows, rat, rats, c_spec_l19Add]
  refine ⟨fun h => ?_, fun h => ?_⟩
  · have h' : c ≠ 0 := by simpa using h
    rw [stepA, if_pos h']
    exact ⟨rfl, rfl⟩
  · have h' : c = 0 := by simpa using h
    subst h'
    refine CallW.res (spec_AddRatios_ok a b) [] rfl Try.call124 ?_ (.inl rfl) ?_
    · simp -implicitDefEqProofs only [agR, Nat.reduceLeDiff, Nat.reduceSub, vaR, go_sem, ints, rows, rat, rats, ratsO, rtR, intsO, rowsO]
    simp -implicitDefEqProofs only [clR, Nat.reduceLeDiff, go_sem, evR, rat, redT, rat]
    exact ⟨rfl, rfl⟩

theorem spec_l19Times_ok (c : Int) (a b : Int × Int) : Fun Try.prog 125 [.box [.i c]] [.own 1000000000, .t (rat a), .t (rat b)] fun o r => o = [.box [.i (stepM c a b).2]] ∧ r = rat (stepM c a b).1 := by
  refine fun_spec_l19Times (by simp) ?_
  simp -implicitDefEqProofs only [go_sem, evR, ints, rows, rat, rats, c_spec_l19Times]
  refine ⟨fun h => ?_, fun h => ?_⟩
  · have h' : c ≠ 0 := by simpa using h
    rw [stepM, if_pos h']
    exact ⟨rfl, rfl⟩
  · have h' : c = 0 := by simpa using h
    subst h'
    refine CallW.res (spec_MultiplyRatios_ok a b) [] rfl Try.call129 ?_ (.inl rfl) ?_
    · simp -implicitDefEqProofs only [agR, Nat.reduceLeDiff, Nat.reduceSub, vaR, go_sem, ints, rows, rat, rats, ratsO, rtR, intsO, rowsO]
    simp -implicitDefEqProofs only [clR, Nat.reduceLeDiff, go_sem, evR, rat, redT, rat]
    exact ⟨rfl, rfl⟩
end Go.Ab

/- Contracts: mixes. -/
set_option linter.unusedSimpArgs false
set_option linter.unusedVariables false
namespace Go.Ab
open Go.Proofs

def mixGo : Int × Int → List (Int × Int) → Bool
  | s, [] => decide (s = (1, 1))
  | s, x :: l => isRat x && decide (0 ≤ x.1) && decide ((addR s x).2 = 0) && mixGo (addR s x).1 l
def mixSp : Int → Int × Int → List (Int × Int) → Bool
  | c, s, [] => decide (c = 0) && decide (s = (1, 1))
  | c, s, x :: l => isRat x && decide (0 ≤ x.1) && mixSp (stepA c s x).2 (stepA c s x).1 l
theorem mixSp_err : ∀ (l : List (Int × Int)) (c : Int) (s : Int × Int), c ≠ 0 → mixSp c s l = false
  | [], c, s, h => by simp [mixSp, h]
  | x :: l, c, s, h => by
    rw [mixSp, stepA, if_pos h]
    simp only []
    rw [mixSp_err l c _ h]; simp
theorem mixSp_eq : ∀ (l : List (Int × Int)) (s : Int × Int), mixSp 0 s l = mixGo s l
  | [], s => by simp [mixSp, mixGo]
  | x :: l, s => by
    rw [mixSp, mixGo, stepA, if_neg (by simp)]
    by_cases h : (addR s x).2 = 0
    · rw [h, mixSp_eq l]; simp
    · rw [mixSp_err l _ _ h]; simp [h]
/-- Is p a mix of n? -/
def isMixB (p : List (Int × Int)) (n : Int) : Bool := decide (1 ≤ n ∧ n ≤ 4) && decide ((p.length : Int) = n) && mixGo (0, 1) p

theorem impl_IsMix_ok (p : List (Int × Int)) (n : Int) (hp : p.length ≤ 1000000000000) : Pure Try.prog 87 [rats p, .i n] (.b (isMixB p n)) := by
  refine fun_impl_IsMix (by simp) ?_
  simp -implicitDefEqProofs only [go_sem, evR, ints, rows, rat, rats, c_impl_IsMix]
  refine CallW.pure (impl_within_ok n 1 4) [] rfl Try.call67 ?_ (by first | trivial | simp [T.noSh, T.noShL, rat]) rfl ?_
  · simp -implicitDefEqProofs only [agR, Nat.reduceLeDiff, Nat.reduceSub, vaR, go_sem, ints, rows, rat, rats, ratsO, rtR, intsO, rowsO]
  simp -implicitDefEqProofs only [go_sem, evR, ints, rows, rat, rats]
  refine ⟨fun h => ⟨fun h1 => ?_, fun h1 => ?_⟩, fun h => ?_⟩
  · rw [isMixB, decide_eq_false (p := (p.length : Int) = n) (by simpa using h1)]; simp
  · have hn : 1 ≤ n ∧ n ≤ 4 := by simpa using h
    have hl : (p.length : Int) = n := by simpa using h1
    refine SemC.loopR (σ := Nat × (Int × Int)) (fun s => St.of [(5, .own 5), (20, .t (rats p)), (21, .t (.i p.length)), (22, .t (.i s.1))] [(5, .box [.i s.2.1, .i s.2.2])]) (fun s => s.1 ≤ p.length ∧ mixGo s.2 (p.drop s.1) = mixGo (0, 1) p) (fun s => p.length - s.1) (0, (0, 1)) (Weak.of _ _ [some 5] (by simp) (by simp) ?_ ?_) ⟨by simp, rfl⟩ fun s hI R hn' hr he => ?_
    · simp -implicitDefEqProofs only [ints, rows, Nat.reduceBEq, wkR, Nat.reduceEqDiff, ↓reduceIte, wrR, rats]
    · exact ⟨⟨_, rfl, .refl _⟩, rfl, trivial⟩
    · obtain ⟨i, s1, s2⟩ := s
      obtain ⟨hi, hm⟩ := hI
      (try simp only [] at hi hm)
      simp -implicitDefEqProofs only [go_sem, evR, ints, rows, rat, rats]
      refine ⟨fun h => ⟨by omega, by rw [ratC_length]; omega, by rw [ratC_length]; omega, ?_⟩, fun h => he _ _ ?_⟩
      · obtain ⟨x, hx⟩ : ∃ x, p[i]? = some x := ⟨_, List.getElem?_eq_getElem (by omega)⟩
        rw [ratC_at hx]
        simp -implicitDefEqProofs only [go_sem, evR, ints, rows, rat, rats]
        rw [drop_of_get hx, mixGo] at hm
        have hmB : isMixB p n = mixGo (0, 1) p := by rw [isMixB, decide_eq_true hn, decide_eq_true hl]; simp
        refine CallW.pure (impl_IsRatio_ok x) [] rfl Try.call88 ?_ (by first | trivial | simp [T.noSh, T.noShL, rat]) rfl ?_
        · simp -implicitDefEqProofs only [agR, Nat.reduceLeDiff, Nat.reduceSub, vaR, go_sem, ints, rows, rat, rats, ratsO, rtR, intsO, rowsO]
        simp -implicitDefEqProofs only [go_sem, evR, ints, rows, rat, rats]
        refine ⟨fun h1 => ⟨fun h2 => hr _ ?_, fun h2 => ?_⟩, fun h1 => hr _ ?_⟩
        · simp -implicitDefEqProofs only [go_sem, evR, ints, rows, rat, rats]
          rw [hmB, ← hm, decide_eq_false (p := 0 ≤ x.1) (by omega)]; simp
        · refine CallW.res (impl_AddRatios_ok (s1, s2) x) [] rfl Try.call111 ?_ (.inl rfl) ?_
          · simp -implicitDefEqProofs only [agR, Nat.reduceLeDiff, Nat.reduceSub, vaR, go_sem, ints, rows, rat, rats, ratsO, rtR, intsO, rowsO]
          simp -implicitDefEqProofs only [clR, Nat.reduceLeDiff, go_sem, evR, rat, redT, rat]
          refine ⟨fun h3 => hr _ ?_, fun h3 => ?_⟩
          · simp -implicitDefEqProofs only [go_sem, evR, ints, rows, rat, rats]
            rw [hmB, ← hm, decide_eq_false (p := (addR (s1, s2) x).2 = 0) (by simpa using h3)]; simp
          · refine hn' _ (i + 1, (addR (s1, s2) x).1) (Weak.of _ _ [some 5] (by simp) (by simp) ?_ ?_) ⟨by simp only []; omega, ?_⟩ (by simp only []; omega)
            · simp -implicitDefEqProofs only [ints, rows, Nat.reduceBEq, wkR, Nat.reduceEqDiff, ↓reduceIte, wrR, rats, next64 (by omega : i < p.length) hp]
            · exact ⟨⟨_, rfl, .refl _⟩, rfl, trivial⟩
            · simp only []
              rw [← hm]
              have e1 : isRat x = true := by simpa using h1
              have e3 : (addR (s1, s2) x).2 = 0 := by simpa using h3
              rw [e1, e3, decide_eq_true (p := 0 ≤ x.1) (by omega)]; simp
        · simp -implicitDefEqProofs only [go_sem, evR, ints, rows, rat, rats]
          rw [hmB, ← hm]
          have e1 : isRat x = false := by simpa using h1
          rw [e1]; simp
      · simp -implicitDefEqProofs only [go_sem, evR, ints, rows, rat, rats]
        have hmB : isMixB p n = mixGo (0, 1) p := by rw [isMixB, decide_eq_true hn, decide_eq_true hl]; simp
        rw [hmB, ← hm, List.drop_of_length_le (by omega), mixGo]
        simp
  · rw [isMixB, decide_eq_false (p := 1 ≤ n ∧ n ≤ 4) (by simp at h; omega)]; simp

theorem spec_IsMix_ok (p : List (Int × Int)) (n : Int) (hp : p.length ≤ 1000000000000) : Pure Try.prog 93 [rats p, .i n] (.b (isMixB p n)) := by
  refine fun_spec_IsMix (by simp) ?_
  simp -implicitDefEqProofs only [go_sem, evR, ints, rows, rat, rats, c_spec_IsMix]
  refine ⟨fun h => ?_, fun h => ?_⟩
  case refine_2 => rw [isMixB, decide_eq_false (p := (p.length : Int) = n) (by simpa using h)]; simp
  have hl : (p.length : Int) = n := by simpa using h
  refine CallW.pure (spec_l01In_ok n 1 4) [] rfl Try.call70 ?_ (by first | trivial | simp [T.noSh, T.noShL, rat]) rfl ?_
  · simp -implicitDefEqProofs only [agR, Nat.reduceLeDiff, Nat.reduceSub, vaR, go_sem, ints, rows, rat, rats, ratsO, rtR, intsO, rowsO]
  simp -implicitDefEqProofs only [go_sem, evR, ints, rows, rat, rats]
  refine ⟨fun h => ?_, fun h => ?_⟩
  · rw [isMixB, decide_eq_false (p := 1 ≤ n ∧ n ≤ 4) (by simp at h; omega)]; simp
  have hn : 1 ≤ n ∧ n ≤ 4 := by simpa using h
  have hmB : isMixB p n = mixGo (0, 1) p := by rw [isMixB, decide_eq_true hn, decide_eq_true hl]; simp
  refine CallW.pure (spec_l19Whole_ok 0) [] rfl Try.call86 ?_ (by first | trivial | simp [T.noSh, T.noShL, rat]) rfl ?_
  · simp -implicitDefEqProofs only [agR, Nat.reduceLeDiff, Nat.reduceSub, vaR, go_sem, ints, rows, rat, rats, ratsO, rtR, intsO, rowsO]
  simp -implicitDefEqProofs only [go_sem, evR, ints, rows, rat, rats]
  refine SemC.loopR (σ := Nat × Int × (Int × Int)) (fun s => St.of [(0, .t (rats p)), (5, .own 18), (6, .own 6), (7, .t (.i s.1))] [(6, .box [.i s.2.2.1, .i s.2.2.2]), (18, .box [.i s.2.1])]) (fun s => s.1 ≤ p.length ∧ mixSp s.2.1 s.2.2 (p.drop s.1) = mixSp 0 (0, 1) p) (fun s => p.length - s.1) (0, 0, (0, 1)) (Weak.of _ _ [some 6, some 18] (by simp) (by simp) ?_ ?_) ⟨by simp, rfl⟩ fun s hI R hn' hr he => ?_
  · simp -implicitDefEqProofs only [ints, rows, Nat.reduceBEq, wkR, Nat.reduceEqDiff, ↓reduceIte, wrR, rats]
  · exact ⟨⟨_, rfl, .refl _⟩, rfl, ⟨_, rfl, .refl _⟩, rfl, trivial⟩
  · obtain ⟨i, c, s1, s2⟩ := s
    obtain ⟨hi, hm⟩ := hI
    (try simp only [] at hi hm)
    rw [mixSp_eq, ← hmB] at hm
    simp -implicitDefEqProofs only [go_sem, evR, ints, rows, rat, rats]
    refine ⟨fun h => ⟨by omega, by rw [ratC_length]; omega, by rw [ratC_length]; omega, ?_⟩, fun h => he _ _ ?_⟩
    · obtain ⟨x, hx⟩ : ∃ x, p[i]? = some x := ⟨_, List.getElem?_eq_getElem (by omega)⟩
      rw [ratC_at hx]
      rw [drop_of_get hx, mixSp] at hm
      refine CallW.pure (spec_IsRatio_ok x) [] rfl Try.call94 ?_ (by first | trivial | simp [T.noSh, T.noShL, rat]) rfl ?_
      · simp -implicitDefEqProofs only [agR, Nat.reduceLeDiff, Nat.reduceSub, vaR, go_sem, ints, rows, rat, rats, ratsO, rtR, intsO, rowsO]
      simp -implicitDefEqProofs only [go_sem, evR, ints, rows, rat, rats, ratC_get1 hx]
      refine ⟨fun h1 => ⟨by omega, by rw [ratC_length]; omega, by rw [ratC_length]; omega, fun h2 => hr _ ?_, fun h2 => ?_⟩, fun h1 => hr _ ?_⟩
      · simp -implicitDefEqProofs only [go_sem, evR, ints, rows, rat, rats]
        rw [← hm, decide_eq_false (p := 0 ≤ x.1) (by omega)]; simp
      · refine ⟨by omega, by rw [ratC_length]; omega, by rw [ratC_length]; omega, ?_⟩
        (try rw [ratC_at hx])
        refine CallH.ref (spec_l19Add_ok c (s1, s2) x) [18] [] rfl Try.call116 (by simp) ?_ (by simp) (fun e R' hR => ?_) (.inl rfl) ?_
        · simp -implicitDefEqProofs only [srR, Nat.reduceEqDiff, ↓reduceIte, ints, rows, intsO, rowsO]
        · simp -implicitDefEqProofs only [agR, Nat.reduceLeDiff, Nat.reduceSub, vaR, go_sem, ints, rows, rat, rats, ratsO, rtR, intsO, rowsO]
        simp -implicitDefEqProofs only [clR, Nat.reduceLeDiff, go_sem, evR, rat]
        refine hn' _ (i + 1, (stepA c (s1, s2) x).2, (stepA c (s1, s2) x).1) (Weak.of _ _ [some 6, some 18] (by simp) (by simp) ?_ ?_) ⟨by simp only []; omega, ?_⟩ (by simp only []; omega)
        · simp -implicitDefEqProofs only [ints, rows, Nat.reduceBEq, wkR, Nat.reduceEqDiff, ↓reduceIte, wrR, rats, next64 (by omega : i < p.length) hp]
        · exact ⟨⟨_, rfl, .refl _⟩, rfl, ⟨_, rfl, .refl _⟩, rfl, trivial⟩
        · simp only []
          rw [mixSp_eq, ← hmB, ← hm]
          have e1 : isRat x = true := by simpa using h1
          rw [e1, decide_eq_true (p := 0 ≤ x.1) (by omega)]; simp
      · simp -implicitDefEqProofs only [go_sem, evR, ints, rows, rat, rats]
        rw [← hm]
        have e1 : isRat x = false := by simpa using h1
        rw [e1]; simp
    · simp -implicitDefEqProofs only [go_sem, evR, ints, rows, rat, rats]
      rw [List.drop_of_length_le (by omega), mixSp] at hm
      refine ⟨fun h1 => ?_, fun h1 => ?_⟩
      · refine CallV.pure (spec_l19Whole_ok 1) [] rfl Try.call86 (fun e R' hR => ?_) (by first | trivial | simp [T.noSh, T.noShL, rat]) (fun _ => rfl) ?_
        · simp -implicitDefEqProofs only [agR, Nat.reduceLeDiff, Nat.reduceSub, vaR, go_sem, ints, rows, rat, rats, ratsO, rtR, intsO, rowsO]
        simp -implicitDefEqProofs only [go_sem, evR, ints, rows, rat, rats]
        rw [← hm, decide_eq_true (p := c = 0) (by simpa using h1)]
        by_cases h : (s1, s2) = (1, 1) <;> simp_all
      · rw [← hm, decide_eq_false (p := c = 0) (by simpa using h1)]; simp
end Go.Ab

/- Contracts: lists of ratios in the laws; the law FnExactIsMix. -/
set_option linter.unusedSimpArgs false
set_option linter.unusedVariables false
namespace Go.Ab
open Go.Proofs

/-- A list of ratios that is half written. -/
def rfilled (l : List (Int × Int)) (i : Nat) : List (Int × Int) := l.take i ++ List.replicate (l.length - i) (0, 0)
theorem rfilled_length (l : List (Int × Int)) (i : Nat) (h : i ≤ l.length) : (rfilled l i).length = l.length := by simp [rfilled]; omega
theorem rfilled_all (l : List (Int × Int)) : rfilled l l.length = l := by simp [rfilled]
theorem ratC_replicate : ∀ (n : Nat), made [T.v (.int .i64 0), T.v (.int .i64 0)] n = ratC (List.replicate n (0, 0)) := by
  intro n
  refine List.ext_getElem? fun i => ?_
  have e : made [T.v (.int .i64 0), T.v (.int .i64 0)] n = (List.range (n * 2)).map fun i => [T.v (.int .i64 0), T.v (.int .i64 0)].getD (i % 2) .any := rfl
  rw [e]
  by_cases hi : i < n * 2
  · rw [List.getElem?_map, List.getElem?_range hi]
    have h2 : i / 2 < n := by omega
    have hx : (List.replicate n ((0 : Int), (0 : Int)))[i / 2]? = some (0, 0) := by rw [List.getElem?_replicate, if_pos h2]
    rcases Nat.mod_two_eq_zero_or_one i with h | h
    · have := ratC_get1 hx
      rw [show i / 2 * 2 = i by omega] at this
      rw [this, Option.map_some, h]; rfl
    · have := ratC_get2 hx
      rw [show i / 2 * 2 + 1 = i by omega] at this
      rw [this, Option.map_some, h]; rfl
  · rw [List.getElem?_eq_none (by simpa using hi), List.getElem?_eq_none (by rw [ratC_length]; simpa using hi)]
theorem ratC_set {l : List (Int × Int)} {i : Nat} (r : Int × Int) (h : i < l.length) : (ratC l).take (i * 2) ++ [T.i r.1, T.i r.2] ++ (ratC l).drop (i * 2 + 2) = ratC (l.set i r) := by
  rw [show i * 2 + 2 = (i + 1) * 2 by omega, ratC_take, ratC_drop, ← show ratC [r] = [T.i r.1, T.i r.2] from rfl, ← ratC_append, ← ratC_append]
  congr 1
  rw [List.set_eq_take_append_cons_drop, if_pos h]; simp
theorem rfilled_set {l : List (Int × Int)} {i : Nat} {x : Int × Int} (h : l[i]? = some x) : (rfilled l i).set i x = rfilled l (i + 1) := by
  obtain ⟨hi, rfl⟩ := List.getElem?_eq_some_iff.1 h
  rw [rfilled, rfilled, List.set_append_right _ _ (by simp; omega), List.take_succ_eq_append_getElem hi]
  have e : i - (l.take i).length = 0 := by simp; omega
  have e2 : l.length - i = (l.length - (i + 1)) + 1 := by omega
  rw [e, e2, List.replicate_succ, List.set_cons_zero]
  simp only [List.append_assoc, List.cons_append, List.nil_append]

end Go.Ab

/- Contracts: the turned matrix. -/
set_option linter.unusedSimpArgs false
set_option linter.unusedVariables false
namespace Go.Ab
open Go.Proofs

/-- A column of the first i rows. -/
def colI (m : List (List Int)) (k i : Nat) : List Int := (m.take i).map fun r => r.getD k 0
def colOf (m : List (List Int)) (k : Nat) : List Int := m.map fun r => r.getD k 0
def tr (m : List (List Int)) (c : Nat) : List (List Int) := (List.range c).map (colOf m)
/-- All rows have c numbers. -/
def rect (m : List (List Int)) (c : Nat) : Prop := ∀ r ∈ m, r.length = c
def tpart (m : List (List Int)) (c k i : Nat) : List (List Int) := (List.range c).map fun j => if j < k then colOf m j else if j = k then colI m j i else []
theorem tpart_length (m : List (List Int)) (c k i : Nat) : (tpart m c k i).length = c := by simp [tpart]
theorem tpart_get {m : List (List Int)} {c k i : Nat} (h : k < c) : (tpart m c k i)[k]? = some (colI m k i) := by simp [tpart, h]
theorem tpart_set {m : List (List Int)} {c k i : Nat} (h : k < c) {r : List Int} (hr : m[i]? = some r) : (tpart m c k i).set k (colI m k i ++ [r.getD k 0]) = tpart m c k (i + 1) := by
  refine List.ext_getElem? fun j => ?_
  rw [List.getElem?_set]
  by_cases hj : k = j
  · subst hj
    rw [if_pos rfl, if_pos (by rw [tpart_length]; exact h), tpart_get h, colI, colI, take_snoc hr]; simp
  · rw [if_neg hj]
    simp only [tpart, List.getElem?_map]
    by_cases hjc : j < c
    · rw [List.getElem?_range hjc]; simp only [Option.map_some, if_neg (Ne.symm hj)]
    · rw [List.getElem?_eq_none (by simpa using hjc)]; rfl
theorem tpart_zero (m : List (List Int)) (c : Nat) : tpart m c 0 0 = List.replicate c [] := by
  refine List.ext_getElem? fun j => ?_
  simp only [tpart, List.getElem?_map, List.getElem?_replicate]
  by_cases hjc : j < c
  · rw [List.getElem?_range hjc, if_pos hjc]; simp [colI]
  · rw [List.getElem?_eq_none (by simpa using hjc), if_neg hjc]; rfl
theorem tpart_next {m : List (List Int)} {c k : Nat} : tpart m c k m.length = tpart m c (k + 1) 0 := by
  refine List.map_congr_left fun j _ => ?_
  by_cases h1 : j < k
  · rw [if_pos h1, if_pos (by omega)]
  · by_cases h2 : j = k
    · rw [if_neg h1, if_pos h2, if_pos (by omega), colI, List.take_length]; rfl
    · rw [if_neg h1, if_neg h2, if_neg (by omega)]
      split
      · simp [colI]
      · rfl
theorem tpart_all (m : List (List Int)) (c : Nat) : tpart m c c 0 = tr m c := by
  refine List.map_congr_left fun j hj => ?_
  rw [if_pos (by simpa using hj)]

theorem le_nils (n : Nat) : Le (.arr 1 (List.replicate n (.v (.slice none 0 0)))) (.arr 1 ((List.replicate n ([] : List Int)).map intsO)) :=
  .arr 1 (by simp) fun i h h' => by simp [intsO]; exact .nilArr 1

theorem impl_turned_ok (m : List (List Int)) (c : Nat) (hm : m ≠ []) (hr : rect m c) (hml : m.length ≤ 1000000) (hcl : c ≤ 1000000) : Fun Try.prog 62 [] [.t (rows m)] fun o r => o = [] ∧ r = rowsO (tr m c) := by
  have hpos : 0 < m.length := List.length_pos_iff.2 hm
  refine fun_impl_turned (by simp) ?_
  simp -implicitDefEqProofs only [go_sem, evR, ints, rows, rat, rats, c_impl_turned]
  refine ⟨by omega, by omega, fun r0 h0 => ?_⟩
  have hc0 : r0.length = c := hr r0 (List.mem_of_getElem? h0)
  rw [hc0]
  refine ⟨by omega, by omega, ?_⟩
  refine SemC.loopR (σ := Nat) (fun k => St.of [(0, .t (rows m)), (3, .own 11), (13, .t (.i c)), (14, .t (.i k))] [(11, .arr 1 ((tpart m c k 0).map intsO))]) (fun k => k ≤ c) (fun k => c - k) 0 (Weak.of _ _ [some 11] (by simp) (by simp) ?_ ?_) (by simp) fun k hk R hn hr' he => ?_
  · simp -implicitDefEqProofs only [ints, rows, Nat.reduceBEq, wkR, Nat.reduceEqDiff, ↓reduceIte, wrR, made_one, List.length_replicate]
  · exact ⟨⟨_, rfl, by rw [made_one, tpart_zero]; exact le_nils _⟩, rfl, trivial⟩
  · simp -implicitDefEqProofs only [go_sem, evR, ints, rows, rat, rats]
    refine ⟨fun h => ?_, fun h => he _ _ ?_⟩
    · refine SemC.loopR (σ := Nat) (fun i => St.of [(0, .t (rows m)), (3, .own 11), (4, .t (.i k)), (13, .t (.i c)), (14, .t (.i k)), (17, .t (rows m)), (18, .t (.i m.length)), (19, .t (.i i))] [(11, .arr 1 ((tpart m c k i).map intsO))]) (fun i => i ≤ m.length) (fun i => m.length - i) 0 (Weak.of _ _ [some 11] (by simp) (by simp) ?_ ?_) (by simp) fun i hi R2 hn2 hr2 he2 => ?_
      · simp -implicitDefEqProofs only [ints, rows, Nat.reduceBEq, wkR, Nat.reduceEqDiff, ↓reduceIte, wrR]
      · exact ⟨⟨_, rfl, .refl _⟩, rfl, trivial⟩
      · have hlen := tpart_length m c k i
        simp -implicitDefEqProofs only [go_sem, evR, ints, rows, rat, rats, hlen, intsO]
        refine ⟨fun h1 => ⟨by omega, by omega, by omega, fun r hrow => ⟨by omega, by omega, by omega, fun q hq => ?_⟩⟩, fun h1 => he2 _ _ ?_⟩
        · have hkc : k < c := by omega
          rw [tpart_get hkc] at hq; cases hq
          have hrl := hr r (List.mem_of_getElem? hrow)
          refine ⟨by omega, by omega, by omega, fun x hx => ⟨?_, by omega, by omega, by omega, hn2 _ (i + 1) (Weak.of _ _ [some 11] (by simp) (by simp) ?_ ?_) (by omega) (by omega)⟩⟩
          · simp [colI]; omega
          · simp -implicitDefEqProofs only [ints, rows, Nat.reduceBEq, wkR, Nat.reduceEqDiff, ↓reduceIte, wrR, next64 (by omega : i < m.length) (by omega)]
          · refine ⟨⟨_, rfl, ?_⟩, rfl, trivial⟩
            have e := tpart_set hkc hrow
            have hxk : r.getD k 0 = x := by rw [List.getD_eq_getElem?_getD, hx]; rfl
            rw [hxk] at e
            rw [← e, List.map_set]
            simp only [intsO, List.map_append, List.map_cons, List.map_nil]
            exact .refl _
        · simp -implicitDefEqProofs only [go_sem, evR, ints, rows, rat, rats]
          have : i = m.length := by omega
          subst this
          refine hn _ (k + 1) (Weak.of _ _ [some 11] (by simp) (by simp) ?_ ?_) (by omega) (by omega)
          · simp -implicitDefEqProofs only [ints, rows, Nat.reduceBEq, wkR, Nat.reduceEqDiff, ↓reduceIte, wrR, next64 (by omega : k < c) (by omega)]
          · exact ⟨⟨_, rfl, by rw [tpart_next]; exact .refl _⟩, rfl, trivial⟩
    · simp -implicitDefEqProofs only [go_sem, evR, ints, rows, rat, rats]
      have : k = c := by omega
      subst this
      rw [tpart_all]; rfl
end Go.Ab

/- Contracts: saddle points. -/
set_option linter.unusedSimpArgs false
set_option linter.unusedVariables false
namespace Go.Ab
open Go.Proofs

theorem isMat_spec {m : List (List Int)} (h : isMat m = true) : 1 ≤ m.length ∧ m.length ≤ 4 ∧ 1 ≤ (m.headD []).length ∧ (m.headD []).length ≤ 4 ∧ rect m (m.headD []).length ∧ ∀ r ∈ m, ∀ x ∈ r, -20 ≤ x ∧ x ≤ 20 := by
  simp only [isMat, Bool.and_eq_true, decide_eq_true_eq, List.all_eq_true, rowOK] at h
  exact ⟨h.1.1.1, h.1.1.2, h.1.2.1, h.1.2.2, fun r hr => (h.2 r hr).1, fun r hr x hx => (h.2 r hr).2 x hx⟩
end Go.Ab

/- The law FnExactSaddlePoint, as a contract. -/
set_option linter.unusedSimpArgs false
set_option linter.unusedVariables false
namespace Go.Ab
open Go.Proofs

end Go.Ab

/- Contracts: the flipped matrix, the reference. -/
set_option linter.unusedSimpArgs false
set_option linter.unusedVariables false
namespace Go.Ab
open Go.Proofs

def neg (l : List Int) : List Int := l.map fun x => -x
end Go.Ab

/- slices.Delete: its contract, out of the kit's shelf. -/
set_option linter.unusedSimpArgs false
set_option linter.unusedVariables false
namespace Go.Ab
open Go.Proofs Go.Shelf Go.Sort

def delRen : Go.Shelf.Ren := ⟨fun | 45 => 126 | n => n, fun | 0 => 0 | 3 => 3 | 4 => 4 | 22 => 34 | 23 => 2 | n => n, fun n => n⟩
theorem delL : SlLaysE.n45 Try.prog delRen := {
  mixed := by kernel_rfl
  f45 := ⟨Try.f126.name, by decide, Try.func126.trans (congrArg some (by kernel_rfl))⟩
  t0 := Try.underlying0
  a0 := Try.isAgg0
  z0 := Try.sizeOf0
  v0 := Try.zeroValue0
  t3 := Try.underlying3
  a3 := Try.isAgg3
  z3 := Try.sizeOf3
  v3 := Try.zeroValue3
  t4 := Try.underlying4
  a4 := Try.isAgg4
  z4 := Try.sizeOf4
  v4 := Try.zeroValue4
  t22 := Try.underlying34
  a22 := Try.isAgg34
  z22 := Try.sizeOf34
  v22 := Try.zeroValue34
  a23 := Try.isAgg2
  z23 := Try.sizeOf2 }

theorem getD_mapIdx_lt {f : Nat → Value → Value} {cs : Array Value} {k : Nat} (h : k < cs.size) : (cs.mapIdx f).getD k undef = f k (cs.getD k undef) := by
  simp [Array.getD_eq_getD_getElem?, h]

theorem slices_Delete_ok (l : List Int) (i j : Nat) (hij : i < j) (hj : j ≤ l.length) : Fun Try.prog 126 [intsO l] [.own 1000000000, .t (.i i), .t (.i j)] fun o r => o = [.any] ∧ r = intsO (l.take i ++ l.drop j) := by
  intro X w vals hs fp hm hlen hi
  obtain ⟨x, hx, ho, _⟩ := hm.root 0 _ rfl
  simp only [Nat.add_zero] at hx ho
  have h0 := (hi 0 (by simp)).own_inv
  rw [hx, Option.some.injEq] at h0
  have h1 := (hi 1 (by simp)).v_inv
  have h2 := (hi 2 (by simp)).v_inv
  have hv : vals.toArray = #[x, .int .i64 i, .int .i64 j] := by
    match vals, hlen with
    | [a, b, c], _ =>
      simp only [List.getD_cons_zero, List.getD_cons_succ] at h0 h1 h2
      subst h0 h1 h2; rfl
  rw [hv]
  generalize hfp : fp 1000000000 = f at ho
  unfold intsO at ho
  generalize hL : l.map T.i = L at ho
  have hLl : L.length = l.length := by rw [← hL, List.length_map]
  cases ho with
  | rd h => cases h
  | arrNil => simp at hLl; omega
  | arr _ _ b len cap cs e fps hb hl hc hmx hsz hf hr =>
    rw [hLl] at hl hf
    simp only [Nat.mul_one] at hl hsz
    have hcell : ∀ k (h : k < l.length), cs.getD k undef = .int .i64 l[k] ∧ fps.getD k [] = [] := fun k h => by
      have := hr k (by omega)
      have e : L[k]'(by omega) = T.i l[k] := by
        have : L[k]'(by omega) = (l.map T.i)[k]'(by simpa using h) := by congr 1; exact hL.symm
        rw [this, List.getElem_map]
      rw [e] at this
      generalize cs.getD k undef = y at this
      generalize fps.getD k [] = g at this
      cases this with
      | rd hh => cases hh; exact ⟨rfl, rfl⟩
    have hflat : fps.flatten = [] := by
      rw [List.flatten_eq_nil_iff]
      intro g hg
      obtain ⟨k, hk, rfl⟩ := List.mem_iff_getElem.1 hg
      have := (hcell k (by omega)).2
      rwa [List.getD_eq_getElem?_getD, List.getElem?_eq_getElem hk] at this
    have hH : Holds (Value.int .i64) w b 0 l.toArray := fun k hk => by
      have hk : k < l.length := by simpa using hk
      refine ⟨?_, ?_⟩
      · rw [Nat.zero_add, cells_at hb (by omega), (hcell k hk).1, getElem!_pos _ k (by simpa using hk)]; simp
      · simp [World.frozen?, hb]
    have hcall := AnyE.slices_Delete delL (Value.int .i64) (fun _ => rfl) 0 Try.zeroValue2 ((Try.prog.info? 2).get (by kernel_rfl)) (by kernel_rfl) (by kernel_rfl) b 0 cap i j l.toArray w hH (by simp; omega) (by have := hmx; unfold maxLen at this; omega) (by omega) (by simpa using hj)
    have hlen' : l.toArray.size = len := by simp [hl]
    rw [hlen'] at hcall
    refine Calls.mono hcall ?_
    rintro ee w' ⟨rfl, q, rfl⟩
    generalize hnew : (l.toArray.toList.take i ++ l.toArray.toList.drop j ++ List.replicate (j - i) (0 : Int)).toArray = d
    have hds : d.size = len := by rw [← hnew]; simp; omega
    have hdl : d.toList = l.take i ++ l.drop j ++ List.replicate (j - i) 0 := by rw [← hnew]
    have hw' : ∀ b' : Nat, (putRow (Value.int .i64) (Go.Sort.ahead w q) b 0 d).heap[b']? = if b = b' then some (.cells (putCells (Value.int .i64) 0 d cs) e (0, 0)) else w.heap[b']? := fun b' => by
      show (w.heap.modify b (onCells (putCells (Value.int .i64) 0 d)))[b']? = _
      rw [Array.getElem?_modify]
      by_cases hbb : b = b'
      · subst hbb; simp only [if_true, hb, Option.map_some, onCells]
      · simp only [hbb, if_false]
    refine ⟨_, intsO (l.take i ++ l.drop j), [.any], [b], fun _ => [], rfl, ⟨rfl, rfl⟩, rfl, ?_⟩
    have hnl : (l.take i ++ l.drop j).length = len - (j - i) := by simp; omega
    refine ⟨fun k t hk => ?_, fun _ _ => rfl, ?_, fun r r' b' h => by simp at h, fun _ => by simp, by simp, fun r b' h => by simp at h, fun r b' h => by simp at h, fun b' h => .inl ⟨1000000000, ?_⟩, rfl, rfl, rfl, ?_, fun b' hb' hn => ?_⟩
    · have : k = 0 ∧ t = .any := by
        cases k with
        | zero => simpa using hk.symm
        | succ k => simp at hk
      obtain ⟨rfl, rfl⟩ := this
      exact ⟨_, hx, .rd (.any _), .inr rfl⟩
    · have := Ow.arr (w := putRow (Value.int .i64) (Go.Sort.ahead w q) b 0 d) (O := Ob' X (fun _ => []) [b]) 1 ((l.take i ++ l.drop j).map T.i) b (len - (j - i)) cap (putCells (Value.int .i64) 0 d cs) e (List.replicate (len - (j - i)) []) (by rw [hw', if_pos rfl]) (by rw [List.length_map, hnl]; omega) (by omega) hmx (by simp [putCells, hsz]) (by rw [List.length_map, hnl]; simp) (fun k hk => ?_)
      · have e1 : b :: (List.replicate (len - (j - i)) ([] : List Nat)).flatten = [b] := by simp
        rw [e1] at this
        exact this
      · rw [List.length_map] at hk
        have hkl : k < len - (j - i) := by omega
        have e2 : (List.replicate (len - (j - i)) ([] : List Nat)).getD k [] = [] := by
          rw [List.getD_eq_getElem?_getD, List.getElem?_replicate]; split <;> rfl
        rw [e2, List.getElem_map, putCells, getD_mapIdx_lt (by omega), if_pos (by omega)]
        have e3 : d[k - 0]! = (l.take i ++ l.drop j)[k] := by
          rw [Nat.sub_zero, getElem!_pos d k (by omega), ← Array.getElem_toList]
          have := List.getElem_append_left («as» := l.take i ++ l.drop j) (bs := List.replicate (j - i) (0 : Int)) (i := k) (h' := by rw [← hdl, Array.length_toList]; omega) hk
          rw [← this]
          simp only [hdl]
        rw [e3]
        exact .rd (.v _)
    · rw [hfp]; simp at h; rw [h]; simp
    · simp
    · rw [hw', if_neg]
      rintro rfl
      exact hn 1000000000 (by rw [hfp]; simp)
end Go.Ab

/- Contracts: a matrix without a row and a column. -/
set_option linter.unusedSimpArgs false
set_option linter.unusedVariables false
namespace Go.Ab
open Go.Proofs

def without (m : List (List Int)) (r c : Nat) : List (List Int) := (m.eraseIdx r).map fun l => l.eraseIdx c
/-- The same of the first i rows. -/
def withoutI (m : List (List Int)) (r c i : Nat) : List (List Int) := without (m.take i) r c
theorem withoutI_same {m : List (List Int)} {r c i : Nat} {x : List Int} (hx : m[i]? = some x) (h : i = r) : withoutI m r c (i + 1) = withoutI m r c i := by
  obtain ⟨hi, rfl⟩ := List.getElem?_eq_some_iff.1 hx
  have hl : (m.take i).length = i := by simp; omega
  subst h
  rw [withoutI, withoutI, without, without, take_snoc hx, List.eraseIdx_append_of_length_le (by omega), hl, Nat.sub_self]
  rw [List.eraseIdx_of_length_le (l := m.take i) (by omega)]; simp
theorem withoutI_next {m : List (List Int)} {r c i : Nat} {x : List Int} (hx : m[i]? = some x) (h : i ≠ r) : withoutI m r c (i + 1) = withoutI m r c i ++ [x.eraseIdx c] := by
  obtain ⟨hi, rfl⟩ := List.getElem?_eq_some_iff.1 hx
  have hl : (m.take i).length = i := by simp; omega
  rw [withoutI, withoutI, without, without, take_snoc hx]
  rcases Nat.lt_or_ge r i with h1 | h1
  · rw [List.eraseIdx_append_of_lt_length (by omega), List.map_append]; rfl
  · rw [List.eraseIdx_append_of_length_le (by omega), hl, List.eraseIdx_of_length_le (l := m.take i) (by omega), List.eraseIdx_of_length_le (l := [m[i]]) (by simp; omega), List.map_append]; rfl
theorem withoutI_all (m : List (List Int)) (r c : Nat) : withoutI m r c m.length = without m r c := by rw [withoutI, List.take_length]
theorem withoutI_zero (m : List (List Int)) (r c : Nat) : withoutI m r c 0 = [] := by simp [withoutI, without]
theorem withoutI_length (m : List (List Int)) (r c i : Nat) : (withoutI m r c i).length ≤ i := by
  have := List.length_eraseIdx_le (m.take i) r
  simp [withoutI, without] at this ⊢; omega
theorem eraseIdx_cut (l : List Int) (c : Nat) : l.eraseIdx c = l.take c ++ l.drop (c + 1) := List.eraseIdx_eq_take_drop_succ l c

theorem impl_without_ok (m : List (List Int)) (r c : Nat) (hm : m.length ≤ 1000000) (hrow : ∀ x ∈ m, c < x.length ∧ x.length ≤ 1000000) (hr : r ≤ 1000000) : Fun Try.prog 118 [] [.t (rows m), .t (.i r), .t (.i c)] fun o res => o = [] ∧ res = rowsO (without m r c) := by
  refine fun_impl_without (by simp) ?_
  simp -implicitDefEqProofs only [go_sem, evR, ints, rows, rat, rats, c_impl_without]
  refine SemC.loopR (σ := Nat) (fun i => St.of [(0, .t (rows m)), (1, .t (.i r)), (2, .t (.i c)), (7, .own 77), (10, .t (rows m)), (11, .t (.i m.length)), (12, .t (.i i))] [(77, .arr 1 ((withoutI m r c i).map intsO))]) (fun i => i ≤ m.length) (fun i => m.length - i) 0 (Weak.of _ _ [none] (by simp) (by simp) ?_ ?_) (by simp) fun i hi R hn hr' he => ?_
  · simp -implicitDefEqProofs only [ints, rows, Nat.reduceBEq, wkR, Nat.reduceEqDiff, ↓reduceIte, wrR]
  · exact ⟨⟨1, by rw [withoutI_zero]; rfl⟩, trivial⟩
  · simp -implicitDefEqProofs only [go_sem, evR, ints, rows, rat, rats]
    refine ⟨fun h => ⟨by omega, by omega, by omega, fun x hx => ⟨fun h1 => ?_, fun h1 => ?_⟩⟩, fun h => he _ _ ?_⟩
    · have hne : i ≠ r := by simp at h1; omega
      have hxl := hrow x (List.mem_of_getElem? hx)
      refine CallW.res (slices_Clone_ok x (by omega)) [] rfl Try.call127 ?_ (.inl rfl) ?_
      · simp -implicitDefEqProofs only [agR, Nat.reduceLeDiff, Nat.reduceSub, vaR, go_sem, ints, rows, rat, rats, ratsO, rtR, intsO, rowsO]
      simp -implicitDefEqProofs only [clR, Nat.reduceLeDiff, go_sem, evR, rat]
      rw [wrap64 (n := (c : Int) + 1) (by omega) (by omega), show ((c : Int) + 1) = ((c + 1 : Nat) : Int) from rfl]
      refine CallW.ref (slices_Delete_ok x c (c + 1) (by omega) (by omega)) [22] [] rfl Try.call126 (by simp) ?_ (by simp) ?_ (.inl rfl) ?_
      · simp -implicitDefEqProofs only [srR, Nat.reduceEqDiff, ↓reduceIte, ints, rows, intsO, rowsO]
      · simp -implicitDefEqProofs only [agR, Nat.reduceLeDiff, Nat.reduceSub, vaR, go_sem, ints, rows, rat, rats, ratsO, rtR, intsO, rowsO]
      simp -implicitDefEqProofs only [clR, Nat.reduceLeDiff, go_sem, evR, rat, intsO]
      have hlen := withoutI_length m r c i
      refine ⟨by omega, hn _ (i + 1) (Weak.of _ _ [some 28] (by simp) (by simp) ?_ ?_) (by omega) (by omega)⟩
      · simp -implicitDefEqProofs only [ints, rows, Nat.reduceBEq, wkR, Nat.reduceEqDiff, ↓reduceIte, wrR, next64 (by omega : i < m.length) (by omega)]
      · refine ⟨⟨_, rfl, ?_⟩, rfl, trivial⟩
        rw [withoutI_next hx hne, eraseIdx_cut]
        simp only [List.map_append, List.map_cons, List.map_nil, intsO]
        exact .refl _
    · have heq : i = r := by simp at h1; omega
      refine hn _ (i + 1) (Weak.of _ _ [some 77] (by simp) (by simp) ?_ ?_) (by omega) (by omega)
      · simp -implicitDefEqProofs only [ints, rows, Nat.reduceBEq, wkR, Nat.reduceEqDiff, ↓reduceIte, wrR, next64 (by omega : i < m.length) (by omega)]
      · exact ⟨⟨_, rfl, by rw [withoutI_same hx heq]; exact .refl _⟩, rfl, trivial⟩
    · simp -implicitDefEqProofs only [go_sem, evR, ints, rows, rat, rats]
      have : i = m.length := by omega
      rw [this, withoutI_all]; rfl

theorem spec_l27Without_ok (m : List (List Int)) (r c : Nat) (hm : m.length ≤ 1000000) (hrow : ∀ x ∈ m, c < x.length ∧ x.length ≤ 1000000) (hr : r ≤ 1000000) : Fun Try.prog 121 [] [.t (rows m), .t (.i r), .t (.i c)] fun o res => o = [] ∧ res = rowsO (without m r c) := by
  refine fun_spec_l27Without (by simp) ?_
  simp -implicitDefEqProofs only [go_sem, evR, ints, rows, rat, rats, c_spec_l27Without]
  refine SemC.loopR (σ := Nat) (fun i => St.of [(0, .t (rows m)), (1, .t (.i r)), (2, .t (.i c)), (7, .own 77), (8, .t (.i i))] [(77, .arr 1 ((withoutI m r c i).map intsO))]) (fun i => i ≤ m.length) (fun i => m.length - i) 0 (Weak.of _ _ [some 10] (by simp) (by simp) ?_ ?_) (by simp) fun i hi R hn hr' he => ?_
  · simp -implicitDefEqProofs only [ints, rows, Nat.reduceBEq, wkR, Nat.reduceEqDiff, ↓reduceIte, wrR]
  · exact ⟨⟨_, rfl, by rw [withoutI_zero]; exact .refl _⟩, rfl, trivial⟩
  · simp -implicitDefEqProofs only [go_sem, evR, ints, rows, rat, rats]
    refine ⟨fun h => ⟨fun h1 => ?_, fun h1 => ?_⟩, fun h => he _ _ ?_⟩
    · obtain ⟨x, hx⟩ : ∃ x, m[i]? = some x := ⟨_, List.getElem?_eq_getElem (by omega)⟩
      have heq : i = r := by simp at h1; omega
      refine hn _ (i + 1) (Weak.of _ _ [some 77] (by simp) (by simp) ?_ ?_) (by omega) (by omega)
      · simp -implicitDefEqProofs only [ints, rows, Nat.reduceBEq, wkR, Nat.reduceEqDiff, ↓reduceIte, wrR, next64 (by omega : i < m.length) (by omega)]
      · exact ⟨⟨_, rfl, by rw [withoutI_same hx heq]; exact .refl _⟩, rfl, trivial⟩
    · obtain ⟨x, hx⟩ : ∃ x, m[i]? = some x := ⟨_, List.getElem?_eq_getElem (by omega)⟩
      have hne : i ≠ r := by simp at h1; omega
      have hxl := hrow x (List.mem_of_getElem? hx)
      refine ⟨by omega, by omega, by omega, fun y hy => ?_⟩
      rw [hx] at hy; cases hy
      have hw : IntKind.i64.wrap ((c : Int) + 1) = ((c + 1 : Nat) : Int) := by rw [wrap64 (by omega) (by omega)]; rfl
      simp -implicitDefEqProofs only [go_sem, evR, ints, rows, rat, rats, ite_nn, Nat.sub_zero, ← List.map_take]
      refine ⟨by omega, by omega, ?_⟩
      refine CallC.res (spec_l01Own_ok (x.take c) (by simp; omega)) [] rfl Try.call128 (fun e R' hR => ?_) (.inl rfl) ?_
      · simp -implicitDefEqProofs only [agR, Nat.reduceLeDiff, Nat.reduceSub, vaR, go_sem, ints, rows, rat, rats, ratsO, rtR, intsO, rowsO]
      simp -implicitDefEqProofs only [clR, Nat.reduceLeDiff, go_sem, evR, rat, ints, intsO, hw, ite_nn, toNat_cast, Nat.sub_zero, ← List.map_drop, hx, Option.some.injEq, forall_eq']
      have hlen := withoutI_length m r c i
      have hl1 : (x.drop (c + 1)).length = x.length - (c + 1) := List.length_drop
      have htk : List.take (x.length - (c + 1)) (List.map T.i (List.drop (c + 1) x)) = List.map T.i (List.drop (c + 1) x) := List.take_of_length_le (by rw [List.length_map]; omega)
      rw [htk]
      refine ⟨by omega, by omega, by omega, by omega, by omega, all_cell_ints _, by rw [List.length_map, List.length_take]; omega, by omega, hn _ (i + 1) (Weak.of _ _ [some 38] (by simp) (by simp) ?_ ?_) (by omega) (by omega)⟩
      · simp -implicitDefEqProofs only [ints, rows, Nat.reduceBEq, wkR, Nat.reduceEqDiff, ↓reduceIte, wrR, next64 (by omega : i < m.length) (by omega)]
      · refine ⟨⟨_, rfl, ?_⟩, rfl, trivial⟩
        rw [withoutI_next hx hne, eraseIdx_cut]
        simp only [List.map_append, List.map_cons, List.map_nil, intsO]
        exact .refl _
    · simp -implicitDefEqProofs only [go_sem, evR, ints, rows, rat, rats]
      have : i = m.length := by omega
      rw [this, withoutI_all]; rfl
end Go.Ab

/- Contracts: determinants. -/
set_option linter.unusedSimpArgs false
set_option linter.unusedVariables false
namespace Go.Ab
open Go.Proofs

def sumTo (f : Nat → Int) : Nat → Int
  | 0 => 0
  | k + 1 => sumTo f k + f k
def sg (k : Nat) : Int := 1 - 2 * ((k % 2 : Nat) : Int)
def detN : Nat → List (List Int) → Int
  | 0, _ => 1
  | n + 1, m => sumTo (fun k => sg k * (m.headD []).getD k 0 * detN n (without m 0 k)) (n + 1)
/-- A square matrix with small entries. -/
def sq (n : Nat) (m : List (List Int)) : Prop := m.length = n ∧ ∀ r ∈ m, r.length = n ∧ ∀ x ∈ r, -20 ≤ x ∧ x ≤ 20
theorem mem_eraseIdx {α : Type} {l : List α} {i : Nat} {x : α} (h : x ∈ l.eraseIdx i) : x ∈ l := (List.eraseIdx_sublist l i).subset h
theorem sq_without {n : Nat} {m : List (List Int)} (h : sq (n + 1) m) {r c : Nat} (hr : r < n + 1) (hc : c < n + 1) : sq n (without m r c) := by
  refine ⟨?_, fun x hx => ?_⟩
  · rw [without, List.length_map, List.length_eraseIdx_of_lt (by rw [h.1]; exact hr), h.1]; rfl
  · obtain ⟨y, hy, rfl⟩ := List.mem_map.1 hx
    obtain ⟨h1, h2⟩ := h.2 y (mem_eraseIdx hy)
    exact ⟨by rw [List.length_eraseIdx_of_lt (by rw [h1]; exact hc), h1]; rfl, fun z hz => h2 z (mem_eraseIdx hz)⟩
def detB : Nat → Nat
  | 0 => 1
  | n + 1 => (n + 1) * (20 * detB n)
theorem sg_abs (k : Nat) : sg k = 1 ∨ sg k = -1 := by
  rcases Nat.mod_two_eq_zero_or_one k with h | h <;> simp [sg, h]
theorem sumTo_abs {f : Nat → Int} {b : Nat} : ∀ {k : Nat}, (∀ j, j < k → (f j).natAbs ≤ b) → (sumTo f k).natAbs ≤ k * b
  | 0, _ => by simp [sumTo]
  | k + 1, h => by
    have h1 := sumTo_abs (k := k) fun j hj => h j (by omega)
    have h2 := h k (by omega)
    have := Int.natAbs_add_le (sumTo f k) (f k)
    rw [sumTo, Nat.add_mul]; omega
theorem head_small {n : Nat} {m : List (List Int)} (h : sq (n + 1) m) (k : Nat) (hk : k < n + 1) : ∃ r, m[0]? = some r ∧ m.headD [] = r ∧ r.length = n + 1 ∧ ∃ x, r[k]? = some x ∧ r.getD k 0 = x ∧ -20 ≤ x ∧ x ≤ 20 := by
  obtain ⟨h1, h2⟩ := h
  match m, h1 with
  | r :: m, _ =>
    obtain ⟨h3, h4⟩ := h2 r (by simp)
    refine ⟨r, rfl, rfl, h3, r[k]'(by omega), List.getElem?_eq_getElem (by omega), ?_, h4 _ (List.getElem_mem _)⟩
    rw [List.getD_eq_getElem?_getD, List.getElem?_eq_getElem (by omega)]; rfl
theorem detN_abs : ∀ {n : Nat} {m : List (List Int)}, sq n m → (detN n m).natAbs ≤ detB n
  | 0, m, _ => by simp [detN, detB]
  | n + 1, m, h => by
    rw [detN, detB]
    refine sumTo_abs fun k hk => ?_
    obtain ⟨r, _, h1, _, x, _, h2, h3, h4⟩ := head_small h k hk
    have h5 := detN_abs (sq_without h (r := 0) (c := k) (by omega) hk)
    rw [h1, h2, Int.natAbs_mul, Int.natAbs_mul]
    have h6 : (sg k).natAbs = 1 := by rcases sg_abs k with h | h <;> rw [h] <;> rfl
    rw [h6, Nat.one_mul]
    exact Nat.mul_le_mul (by omega) h5
theorem detB_le {n : Nat} (h : n ≤ 4) : detB n ≤ 3840000 := by
  match n, h with
  | 0, _ => decide
  | 1, _ => decide
  | 2, _ => decide
  | 3, _ => decide
  | 4, _ => decide
/-- The summand of a determinant, and its bound. -/
theorem term_abs {n : Nat} {m : List (List Int)} (h : sq (n + 1) m) (hn : n < 4) {k : Nat} (hk : k < n + 1) {x : Int} (hx : -20 ≤ x ∧ x ≤ 20) : -76800000 ≤ x * detN n (without m 0 k) ∧ x * detN n (without m 0 k) ≤ 76800000 := by
  have h5 := detN_abs (sq_without h (r := 0) (c := k) (by omega) hk)
  have h6 := detB_le (n := n) (by omega)
  have h7 : (x * detN n (without m 0 k)).natAbs ≤ 20 * 3840000 := by
    rw [Int.natAbs_mul]; exact Nat.mul_le_mul (by omega) (by omega)
  omega
theorem part_abs {n : Nat} {m : List (List Int)} (h : sq (n + 1) m) (hn : n < 4) {k : Nat} (hk : k ≤ n + 1) : -400000000 ≤ sumTo (fun k => sg k * (m.headD []).getD k 0 * detN n (without m 0 k)) k ∧ sumTo (fun k => sg k * (m.headD []).getD k 0 * detN n (without m 0 k)) k ≤ 400000000 := by
  have h1 := sumTo_abs (f := fun k => sg k * (m.headD []).getD k 0 * detN n (without m 0 k)) (b := 76800000) (k := k) fun j hj => by
    obtain ⟨r, _, e1, _, x, _, e2, h3⟩ := head_small h j (by omega)
    have := term_abs h hn (show j < n + 1 by omega) h3
    rw [e1, e2, Int.mul_assoc, Int.natAbs_mul]
    have h6 : (sg j).natAbs = 1 := by rcases sg_abs j with h | h <;> rw [h] <;> rfl
    rw [h6, Nat.one_mul]; omega
  have h2 : k * 76800000 ≤ 4 * 76800000 := Nat.mul_le_mul_right _ (by omega)
  omega
theorem tmod2 (k : Nat) : (k : Int).tmod 2 = ((k % 2 : Nat) : Int) := by
  rw [Int.tmod_eq_emod_of_nonneg (by omega)]; rfl

theorem impl_determinant_ok : ∀ (n : Nat), n ≤ 4 → ∀ m, sq n m → Pure Try.prog 103 [rows m] (.i (detN n m)) := by
  intro n
  induction n with
  | zero =>
    intro _ m hm
    refine fun_impl_determinant (by simp) ?_
    simp -implicitDefEqProofs only [go_sem, evR, ints, rows, rat, rats, c_impl_determinant]
    refine ⟨fun h => rfl, fun h => absurd hm.1 (by simpa using h)⟩
  | succ n ih =>
    intro hn m hm
    refine fun_impl_determinant (by simp) ?_
    simp -implicitDefEqProofs only [go_sem, evR, ints, rows, rat, rats, c_impl_determinant]
    have hml : m.length = n + 1 := hm.1
    refine ⟨fun h => absurd h (by simp [hml]; omega), fun h => ⟨by omega, by omega, fun r0 h0 => ?_⟩⟩
    obtain ⟨r, e1, e2, e3, _⟩ := head_small hm 0 (by omega)
    rw [h0] at e1; cases e1
    rw [e3]
    have hpart := fun k (hk : k ≤ n + 1) => part_abs hm (by omega) hk
    have hterm := fun k (hk : k < n + 1) x (hx : -20 ≤ x ∧ x ≤ 20) => term_abs hm (by omega) hk hx
    have hfin : detN (n + 1) m = sumTo (fun k => sg k * (m.headD []).getD k 0 * detN n (without m 0 k)) (n + 1) := rfl
    rw [hfin]
    rw [e2] at hpart ⊢
    generalize hS : (fun k => sg k * r0.getD k 0 * detN n (without m 0 k)) = f at hpart ⊢
    refine SemC.loopR (σ := Nat) (fun k => St.of [(0, .t (rows m)), (3, .t (.i (sumTo f k))), (12, .t (ints r0)), (13, .t (.i (n + 1 : Nat))), (14, .t (.i k))] []) (fun k => k ≤ n + 1) (fun k => n + 1 - k) 0 (Weak.of _ [] [] (by simp) (by simp) ?_ trivial) (by omega) fun k hk R hn' hr he => ?_
    · simp -implicitDefEqProofs only [ints, rows, wkR, Nat.reduceEqDiff, ↓reduceIte, sumTo]
    · simp -implicitDefEqProofs only [go_sem, evR, ints, rows, rat, rats]
      refine ⟨fun h => ⟨by omega, by omega, by omega, fun x hx => ?_⟩, fun h => he _ _ ?_⟩
      · have hk1 : k < n + 1 := by omega
        have hsx := (hm.2 r0 (List.mem_of_getElem? h0)).2 x (List.mem_of_getElem? hx)
        have hxd : r0.getD k 0 = x := by rw [List.getD_eq_getElem?_getD, hx]; rfl
        have ht := hterm k hk1 x hsx
        have hp1 := hpart k hk
        have hp2 := hpart (k + 1) hk1
        have hf : f k = sg k * x * detN n (without m 0 k) := by rw [← hS]; simp only [hxd]
        rw [sumTo, hf] at hp2
        refine CallW.res (impl_without_ok m 0 k (by omega) (fun y hy => by have := (hm.2 y hy).1; omega) (by omega)) [] rfl Try.call118 ?_ (.inl rfl) ?_
        · simp -implicitDefEqProofs only [agR, Nat.reduceLeDiff, Nat.reduceSub, vaR, go_sem, ints, rows, rat, rats, ratsO, rtR, intsO, rowsO]
        simp -implicitDefEqProofs only [clR, Nat.reduceLeDiff, go_sem, evR, rat]
        refine CallW.pure (ih (by omega) (without m 0 k) (sq_without hm (by omega) hk1)) [22] rfl Try.call103 ?_ (by first | trivial | simp [T.noSh, T.noShL, rat]) rfl ?_
        · simp -implicitDefEqProofs only [agR, Nat.reduceLeDiff, Nat.reduceSub, vaR, go_sem, ints, rows, rat, rats, ratsO, rtR, intsO, rowsO]
        simp -implicitDefEqProofs only [go_sem, evR, ints, rows, rat, rats]
        rw [wrap64 (n := x * detN n (without m 0 k)) (by omega) (by omega)]
        refine ⟨?_, fun h1 => ?_, fun h1 => ?_⟩
        · decide
        · have hodd : k % 2 = 1 := by rw [tmod2] at h1; simp at h1; omega
          have hs : sg k = -1 := by simp [sg, hodd]
          have e1 : sg k * x * detN n (without m 0 k) = -(x * detN n (without m 0 k)) := by rw [hs, Int.neg_one_mul, Int.neg_mul]
          rw [e1] at hp2 hf
          refine hn' _ (k + 1) (Weak.of _ [] [] (by simp) (by simp) ?_ trivial) (by omega) (by omega)
          have w1 : IntKind.i64.wrap (0 - x * detN n (without m 0 k)) = -(x * detN n (without m 0 k)) := by rw [wrap64 (by omega) (by omega)]; omega
          have w2 : IntKind.i64.wrap (sumTo f k + -(x * detN n (without m 0 k))) = sumTo f (k + 1) := by rw [wrap64 (by omega) (by omega), sumTo, hf]
          simp -implicitDefEqProofs only [ints, rows, wkR, Nat.reduceEqDiff, ↓reduceIte, w1, w2, next64 (by omega : k < n + 1) (by omega)]
        · have hev : k % 2 = 0 := by rw [tmod2] at h1; simp at h1; omega
          have hs : sg k = 1 := by simp [sg, hev]
          have e1 : sg k * x * detN n (without m 0 k) = x * detN n (without m 0 k) := by rw [hs, Int.one_mul]
          rw [e1] at hp2 hf
          refine hn' _ (k + 1) (Weak.of _ [] [] (by simp) (by simp) ?_ trivial) (by omega) (by omega)
          have w2 : IntKind.i64.wrap (sumTo f k + x * detN n (without m 0 k)) = sumTo f (k + 1) := by rw [wrap64 (by omega) (by omega), sumTo, hf]
          simp -implicitDefEqProofs only [ints, rows, wkR, Nat.reduceEqDiff, ↓reduceIte, w2, next64 (by omega : k < n + 1) (by omega)]
      · simp -implicitDefEqProofs only [go_sem, evR, ints, rows, rat, rats]
        have : k = n + 1 := by omega
        rw [this]

theorem spec_l27Sign_ok (k : Nat) (hk : k ≤ 1000000000) : Pure Try.prog 120 [.i k] (.i (sg k)) := by
  refine fun_spec_l27Sign (by simp) ?_
  simp -implicitDefEqProofs only [go_sem, evR, ints, rows, rat, rats, c_spec_l27Sign]
  have := Nat.mod_two_eq_zero_or_one k
  rw [tmod2, wrap64 (n := 2 * ((k % 2 : Nat) : Int)) (by omega) (by omega), wrap64 (by omega) (by omega)]
  exact ⟨by decide, rfl⟩

theorem spec_l27Det_ok : ∀ (n : Nat), n ≤ 4 → ∀ m, sq n m → Pure Try.prog 108 [rows m] (.i (detN n m)) := by
  intro n
  induction n with
  | zero =>
    intro _ m hm
    refine fun_spec_l27Det (by simp) ?_
    simp -implicitDefEqProofs only [go_sem, evR, ints, rows, rat, rats, c_spec_l27Det]
    refine ⟨fun h => rfl, fun h => absurd hm.1 (by simpa using h)⟩
  | succ n ih =>
    intro hn m hm
    refine fun_spec_l27Det (by simp) ?_
    simp -implicitDefEqProofs only [go_sem, evR, ints, rows, rat, rats, c_spec_l27Det]
    have hml : m.length = n + 1 := hm.1
    refine ⟨fun h => absurd h (by simp [hml]; omega), fun h => ?_⟩
    obtain ⟨r0, h0, e2, e3, _⟩ := head_small hm 0 (by omega)
    have hpart := fun k (hk : k ≤ n + 1) => part_abs hm (by omega) hk
    have hterm := fun k (hk : k < n + 1) x (hx : -20 ≤ x ∧ x ≤ 20) => term_abs hm (by omega) hk hx
    have hfin : detN (n + 1) m = sumTo (fun k => sg k * (m.headD []).getD k 0 * detN n (without m 0 k)) (n + 1) := rfl
    rw [hfin]
    rw [e2] at hpart ⊢
    generalize hS : (fun k => sg k * r0.getD k 0 * detN n (without m 0 k)) = f at hpart ⊢
    refine SemC.loopR (σ := Nat) (fun k => St.of [(0, .t (rows m)), (3, .t (.i (sumTo f k))), (4, .t (.i k))] []) (fun k => k ≤ n + 1) (fun k => n + 1 - k) 0 (Weak.of _ [] [] (by simp) (by simp) ?_ trivial) (by omega) fun k hk R hn' hr he => ?_
    · simp -implicitDefEqProofs only [ints, rows, wkR, Nat.reduceEqDiff, ↓reduceIte, sumTo]
    · simp -implicitDefEqProofs only [go_sem, evR, ints, rows, rat, rats]
      refine ⟨fun h => ?_, fun h => he _ _ ?_⟩
      · have hk1 : k < n + 1 := by omega
        obtain ⟨x, hx⟩ : ∃ x, r0[k]? = some x := ⟨_, List.getElem?_eq_getElem (by omega)⟩
        have hsx := (hm.2 r0 (List.mem_of_getElem? h0)).2 x (List.mem_of_getElem? hx)
        have hxd : r0.getD k 0 = x := by rw [List.getD_eq_getElem?_getD, hx]; rfl
        have ht := hterm k hk1 x hsx
        have hp1 := hpart k hk
        have hp2 := hpart (k + 1) hk1
        have hf : f k = sg k * x * detN n (without m 0 k) := by rw [← hS]; simp only [hxd]
        rw [sumTo, hf] at hp2
        have hs := sg_abs k
        refine CallV.pure (spec_l27Sign_ok k (by omega)) [] rfl Try.call120 (fun e R' hR => ?_) (by first | trivial | simp [T.noSh, T.noShL, rat]) (fun _ => rfl) ?_
        · simp -implicitDefEqProofs only [agR, Nat.reduceLeDiff, Nat.reduceSub, vaR, go_sem, ints, rows, rat, rats, ratsO, rtR, intsO, rowsO]
        simp -implicitDefEqProofs only [go_sem, evR, ints, rows, rat, rats]
        refine ⟨by omega, by omega, fun r1 h1 => ?_⟩
        rw [h0] at h1; cases h1
        refine ⟨by omega, by omega, by omega, fun y hy => ?_⟩
        rw [hx] at hy; cases hy
        rw [wrap64 (n := sg k * x) (by rcases hs with h | h <;> rw [h] <;> omega) (by rcases hs with h | h <;> rw [h] <;> omega)]
        refine CallC.res (spec_l27Without_ok m 0 k (by omega) (fun y hy => by have := (hm.2 y hy).1; omega) (by omega)) [] rfl Try.call121 (fun e R' hR => ?_) (.inl rfl) ?_
        · simp -implicitDefEqProofs only [agR, Nat.reduceLeDiff, Nat.reduceSub, vaR, go_sem, ints, rows, rat, rats, ratsO, rtR, intsO, rowsO]
        simp -implicitDefEqProofs only [clR, Nat.reduceLeDiff, go_sem, evR, rat]
        refine CallV.pure (ih (by omega) (without m 0 k) (sq_without hm (by omega) hk1)) [26] rfl Try.call108 (fun e R' hR => ?_) (by first | trivial | simp [T.noSh, T.noShL, rat]) (fun _ => rfl) ?_
        · have hq26 := (hR 26).resolve_left (by simp -implicitDefEqProofs only [go_sem, evR, ints, rows, rat, rats, not_false_eq_true])
          simp -implicitDefEqProofs only [go_sem, evR, ints, rows, rat, rats] at hq26
          simp -implicitDefEqProofs only [agR, Nat.reduceLeDiff, Nat.reduceSub, vaR, go_sem, ints, rows, rat, rats, ratsO, rtR, intsO, rowsO, hq26]
        simp -implicitDefEqProofs only [go_sem, evR, ints, rows, rat, rats]
        have e1 : -76800000 ≤ sg k * x * detN n (without m 0 k) ∧ sg k * x * detN n (without m 0 k) ≤ 76800000 := by
          rcases hs with h | h <;> rw [h]
          · rw [Int.one_mul]; exact ht
          · rw [Int.neg_one_mul, Int.neg_mul]; omega
        rw [wrap64 (n := sg k * x * detN n (without m 0 k)) (by omega) (by omega)]
        refine hn' _ (k + 1) (Weak.of _ [] [] (by simp) (by simp) ?_ trivial) (by omega) (by omega)
        have w2 : IntKind.i64.wrap (sumTo f k + sg k * x * detN n (without m 0 k)) = sumTo f (k + 1) := by rw [wrap64 (by omega) (by omega), sumTo, hf]
        simp -implicitDefEqProofs only [ints, rows, wkR, Nat.reduceEqDiff, ↓reduceIte, w2, next64 (by omega : k < n + 1) (by omega)]
      · simp -implicitDefEqProofs only [go_sem, evR, ints, rows, rat, rats]
        have : k = n + 1 := by omega
        rw [this]
end Go.Ab

/- Contracts: adjugates. -/
set_option linter.unusedSimpArgs false
set_option linter.unusedVariables false
namespace Go.Ab
open Go.Proofs

/-- Rows that are filled one after the other: the first i are full, the next one holds cur. -/
def parts (full : Nat → List Int) (cur : List Int) (n i : Nat) : List (List Int) := (List.range n).map fun j => if j < i then full j else if j = i then cur else []
theorem parts_length (full : Nat → List Int) (cur : List Int) (n i : Nat) : (parts full cur n i).length = n := by simp [parts]
theorem parts_get {full : Nat → List Int} {cur : List Int} {n i : Nat} (h : i < n) : (parts full cur n i)[i]? = some cur := by simp [parts, h]
theorem parts_set {full : Nat → List Int} {cur : List Int} {n i : Nat} (cur' : List Int) (h : i < n) : (parts full cur n i).set i cur' = parts full cur' n i := by
  refine List.ext_getElem? fun j => ?_
  rw [List.getElem?_set]
  by_cases hj : i = j
  · subst hj
    rw [if_pos rfl, if_pos (by rw [parts_length]; exact h), parts_get h]
  · rw [if_neg hj]
    simp only [parts, List.getElem?_map]
    by_cases hjn : j < n
    · rw [List.getElem?_range hjn]; simp only [Option.map_some, if_neg (Ne.symm hj)]
    · rw [List.getElem?_eq_none (by simpa using hjn)]; rfl
theorem parts_zero (full : Nat → List Int) (n : Nat) : parts full [] n 0 = List.replicate n [] := by
  refine List.ext_getElem? fun j => ?_
  simp only [parts, List.getElem?_map, List.getElem?_replicate]
  by_cases hjn : j < n
  · rw [List.getElem?_range hjn, if_pos hjn]; simp
  · rw [List.getElem?_eq_none (by simpa using hjn), if_neg hjn]; rfl
theorem parts_next {full : Nat → List Int} {cur : List Int} {n i : Nat} (h : full i = cur) : parts full cur n i = parts full [] n (i + 1) := by
  refine List.map_congr_left fun j _ => ?_
  by_cases h1 : j < i
  · rw [if_pos h1, if_pos (by omega)]
  · by_cases h2 : j = i
    · subst h2; rw [if_neg h1, if_pos rfl, if_pos (by omega), h]
    · rw [if_neg h1, if_neg h2, if_neg (by omega)]
      split <;> rfl
theorem parts_all (full : Nat → List Int) (cur : List Int) (n : Nat) : parts full cur n n = (List.range n).map full := by
  refine List.map_congr_left fun j hj => ?_
  rw [if_pos (by simpa using hj)]

def adjRow (n : Nat) (m : List (List Int)) (i k : Nat) : List Int := (List.range k).map fun j => sg (i + j) * detN (n - 1) (without m j i)
def adjM (n : Nat) (m : List (List Int)) : List (List Int) := (List.range n).map fun i => adjRow n m i n
theorem adjRow_succ (n : Nat) (m : List (List Int)) (i k : Nat) : adjRow n m i (k + 1) = adjRow n m i k ++ [sg (i + k) * detN (n - 1) (without m k i)] := by
  simp only [adjRow, List.range_succ, List.map_append, List.map_cons, List.map_nil]
theorem adjRow_zero (n : Nat) (m : List (List Int)) (i : Nat) : adjRow n m i 0 = [] := rfl
theorem adjRow_length (n : Nat) (m : List (List Int)) (i k : Nat) : (adjRow n m i k).length = k := by simp [adjRow]
theorem minor_abs {n : Nat} {m : List (List Int)} (h : sq n m) (hn : n ≤ 4) {i k : Nat} (hi : i < n) (hk : k < n) : sq (n - 1) (without m k i) ∧ -3840000 ≤ detN (n - 1) (without m k i) ∧ detN (n - 1) (without m k i) ≤ 3840000 := by
  obtain ⟨p, rfl⟩ : ∃ p, n = p + 1 := ⟨n - 1, by omega⟩
  have h1 := sq_without h hk hi
  have h2 := detN_abs h1
  have h3 := detB_le (n := p) (by omega)
  exact ⟨h1, by simp only [Nat.add_sub_cancel]; omega, by simp only [Nat.add_sub_cancel]; omega⟩

theorem impl_adjugate_ok (n : Nat) (hn : n ≤ 4) (m : List (List Int)) (hm : sq n m) : Fun Try.prog 100 [] [.t (rows m)] fun o r => o = [] ∧ r = rowsO (adjM n m) := by
  refine fun_impl_adjugate (by simp) ?_
  simp -implicitDefEqProofs only [go_sem, evR, ints, rows, rat, rats, c_impl_adjugate]
  have hml : m.length = n := hm.1
  rw [hml]
  refine ⟨by omega, by omega, ?_⟩
  have hfull : ∀ i, (fun i => adjRow n m i n) i = adjRow n m i n := fun _ => rfl
  refine SemC.loopR (σ := Nat) (fun i => St.of [(0, .t (rows m)), (3, .own 9), (11, .t (.i n)), (12, .t (.i i))] [(9, .arr 1 ((parts (fun i => adjRow n m i n) [] n i).map intsO))]) (fun i => i ≤ n) (fun i => n - i) 0 (Weak.of _ _ [some 9] (by simp) (by simp) ?_ ?_) (by simp) fun i hi R hn' hr' he => ?_
  · simp -implicitDefEqProofs only [ints, rows, Nat.reduceBEq, wkR, Nat.reduceEqDiff, ↓reduceIte, wrR]
  · exact ⟨⟨_, rfl, by rw [made_one, parts_zero]; exact le_nils _⟩, rfl, trivial⟩
  · simp -implicitDefEqProofs only [go_sem, evR, ints, rows, rat, rats]
    refine ⟨fun h => ?_, fun h => he _ _ ?_⟩
    · rw [hml]
      refine SemC.loopR (σ := Nat) (fun k => St.of [(0, .t (rows m)), (3, .own 9), (4, .t (.i i)), (11, .t (.i n)), (12, .t (.i i)), (16, .t (.i n)), (17, .t (.i k))] [(9, .arr 1 ((parts (fun i => adjRow n m i n) (adjRow n m i k) n i).map intsO))]) (fun k => k ≤ n) (fun k => n - k) 0 (Weak.of _ _ [some 9] (by simp) (by simp) ?_ ?_) (by simp) fun k hk R2 hn2 hr2 he2 => ?_
      · simp -implicitDefEqProofs only [ints, rows, Nat.reduceBEq, wkR, Nat.reduceEqDiff, ↓reduceIte, wrR]
      · exact ⟨⟨_, rfl, by rw [adjRow_zero]; exact .refl _⟩, rfl, trivial⟩
      · have hin : i < n := by omega
        have hlen := parts_length (fun i => adjRow n m i n) (adjRow n m i k) n i
        simp -implicitDefEqProofs only [go_sem, evR, ints, rows, rat, rats, hlen, intsO]
        refine ⟨fun h1 => ?_, fun h1 => he2 _ _ ?_⟩
        · have hkn : k < n := by omega
          obtain ⟨q1, q2, q3⟩ := minor_abs hm hn hin hkn
          refine CallW.res (impl_without_ok m k i (by omega) (fun y hy => by have := (hm.2 y hy).1; omega) (by omega)) [] rfl Try.call118 ?_ (.inl rfl) ?_
          · simp -implicitDefEqProofs only [agR, Nat.reduceLeDiff, Nat.reduceSub, vaR, go_sem, ints, rows, rat, rats, ratsO, rtR, intsO, rowsO]
          simp -implicitDefEqProofs only [clR, Nat.reduceLeDiff, go_sem, evR, rat]
          refine CallW.pure (impl_determinant_ok (n - 1) (by omega) (without m k i) q1) [23] rfl Try.call103 ?_ (by first | trivial | simp [T.noSh, T.noShL, rat]) rfl ?_
          · simp -implicitDefEqProofs only [agR, Nat.reduceLeDiff, Nat.reduceSub, vaR, go_sem, ints, rows, rat, rats, ratsO, rtR, intsO, rowsO]
          simp -implicitDefEqProofs only [go_sem, evR, ints, rows, rat, rats, intsO, hlen]
          have hw : IntKind.i64.wrap ((i : Int) + (k : Int)) = ((i + k : Nat) : Int) := by rw [wrap64 (by omega) (by omega)]; rfl
          rw [hw, tmod2]
          have hs1 : (i + k) % 2 = 1 → sg (i + k) = -1 := fun h => by simp [sg, h]
          have hs0 : (i + k) % 2 = 0 → sg (i + k) = 1 := fun h => by simp [sg, h]
          refine ⟨by decide, fun h2 => ⟨by omega, by omega, by omega, fun q hq => ?_⟩, fun h2 => ⟨by omega, by omega, by omega, fun q hq => ?_⟩⟩
          · have hodd : (i + k) % 2 = 1 := by simp at h2; omega
            rw [parts_get hin] at hq; cases hq
            have hw1 : IntKind.i64.wrap (0 - detN (n - 1) (without m k i)) = sg (i + k) * detN (n - 1) (without m k i) := by rw [wrap64 (by omega) (by omega), hs1 hodd, Int.neg_one_mul]; omega
            refine ⟨by simp only [List.length_map, adjRow_length]; omega, by omega, by omega, by omega, hn2 _ (k + 1) (Weak.of _ _ [some 9] (by simp) (by simp) ?_ ?_) (by omega) (by omega)⟩
            · simp -implicitDefEqProofs only [ints, rows, Nat.reduceBEq, wkR, Nat.reduceEqDiff, ↓reduceIte, wrR, next64 (by omega : k < n) (by omega)]
            · refine ⟨⟨_, rfl, ?_⟩, rfl, trivial⟩
              rw [← parts_set (adjRow n m i (k + 1)) hin, adjRow_succ, hw1]
              simp only [List.map_append, List.map_cons, List.map_nil, intsO, List.map_set]
              exact .refl _
          · have hev : (i + k) % 2 = 0 := by simp at h2; omega
            rw [parts_get hin] at hq; cases hq
            have hw1 : detN (n - 1) (without m k i) = sg (i + k) * detN (n - 1) (without m k i) := by rw [hs0 hev, Int.one_mul]
            refine ⟨by simp only [List.length_map, adjRow_length]; omega, by omega, by omega, by omega, hn2 _ (k + 1) (Weak.of _ _ [some 9] (by simp) (by simp) ?_ ?_) (by omega) (by omega)⟩
            · simp -implicitDefEqProofs only [ints, rows, Nat.reduceBEq, wkR, Nat.reduceEqDiff, ↓reduceIte, wrR, next64 (by omega : k < n) (by omega)]
            · refine ⟨⟨_, rfl, ?_⟩, rfl, trivial⟩
              rw [← parts_set (adjRow n m i (k + 1)) hin, adjRow_succ, ← hw1]
              simp only [List.map_append, List.map_cons, List.map_nil, intsO, List.map_set]
              exact .refl _
        · simp -implicitDefEqProofs only [go_sem, evR, ints, rows, rat, rats]
          have : k = n := by omega
          refine hn' _ (i + 1) (Weak.of _ _ [some 9] (by simp) (by simp) ?_ ?_) (by omega) (by omega)
          · simp -implicitDefEqProofs only [ints, rows, Nat.reduceBEq, wkR, Nat.reduceEqDiff, ↓reduceIte, wrR, next64 (by omega : i < n) (by omega)]
          · exact ⟨⟨_, rfl, by rw [parts_next (by rw [this])]; exact .refl _⟩, rfl, trivial⟩
    · simp -implicitDefEqProofs only [go_sem, evR, ints, rows, rat, rats]
      have : i = n := by omega
      rw [this, parts_all]; rfl

theorem adjM_succ (n : Nat) (m : List (List Int)) (k : Nat) : (List.range (k + 1)).map (fun i => adjRow n m i n) = (List.range k).map (fun i => adjRow n m i n) ++ [adjRow n m k n] := by
  rw [List.range_succ, List.map_append]; rfl
theorem spec_l27Adj_ok (n : Nat) (hn : n ≤ 4) (m : List (List Int)) (hm : sq n m) : Fun Try.prog 105 [] [.t (rows m)] fun o r => o = [] ∧ r = rowsO (adjM n m) := by
  refine fun_spec_l27Adj (by simp) ?_
  simp -implicitDefEqProofs only [go_sem, evR, ints, rows, rat, rats, c_spec_l27Adj]
  have hml : m.length = n := hm.1
  refine SemC.loopR (σ := Nat) (fun i => St.of [(0, .t (rows m)), (3, .own 77), (4, .t (.i i))] [(77, .arr 1 (((List.range i).map fun i => adjRow n m i n).map intsO))]) (fun i => i ≤ n) (fun i => n - i) 0 (Weak.of _ _ [some 7] (by simp) (by simp) ?_ ?_) (by simp) fun i hi R hn' hr' he => ?_
  · simp -implicitDefEqProofs only [ints, rows, Nat.reduceBEq, wkR, Nat.reduceEqDiff, ↓reduceIte, wrR]
  · exact ⟨⟨_, rfl, .refl _⟩, rfl, trivial⟩
  · simp -implicitDefEqProofs only [go_sem, evR, ints, rows, rat, rats, hml]
    refine ⟨fun h => ?_, fun h => he _ _ ?_⟩
    · have hin : i < n := by omega
      refine SemC.loopR (σ := Nat) (fun k => St.of [(0, .t (rows m)), (3, .own 77), (4, .t (.i i)), (5, .own 78), (6, .t (.i k))] [(77, .arr 1 (((List.range i).map fun i => adjRow n m i n).map intsO)), (78, .arr 1 ((adjRow n m i k).map T.i))]) (fun k => k ≤ n) (fun k => n - k) 0 (Weak.of _ _ [some 77, some 14] (by simp) (by simp) ?_ ?_) (by simp) fun k hk R2 hn2 hr2 he2 => ?_
      · simp -implicitDefEqProofs only [ints, rows, Nat.reduceBEq, wkR, Nat.reduceEqDiff, ↓reduceIte, wrR]
      · exact ⟨⟨_, rfl, .refl _⟩, rfl, ⟨_, rfl, .refl _⟩, rfl, trivial⟩
      · simp -implicitDefEqProofs only [go_sem, evR, ints, rows, rat, rats, hml]
        refine ⟨fun h1 => ?_, fun h1 => he2 _ _ ?_⟩
        · have hkn : k < n := by omega
          obtain ⟨q1, q2, q3⟩ := minor_abs hm hn hin hkn
          have hw : IntKind.i64.wrap ((i : Int) + (k : Int)) = ((i + k : Nat) : Int) := by rw [wrap64 (by omega) (by omega)]; rfl
          rw [hw]
          refine CallW.pure (spec_l27Sign_ok (i + k) (by omega)) [] rfl Try.call120 ?_ (by first | trivial | simp [T.noSh, T.noShL, rat]) rfl ?_
          · simp -implicitDefEqProofs only [agR, Nat.reduceLeDiff, Nat.reduceSub, vaR, go_sem, ints, rows, rat, rats, ratsO, rtR, intsO, rowsO]
          simp -implicitDefEqProofs only [go_sem, evR, ints, rows, rat, rats]
          refine CallW.res (spec_l27Without_ok m k i (by omega) (fun y hy => by have := (hm.2 y hy).1; omega) (by omega)) [] rfl Try.call121 ?_ (.inl rfl) ?_
          · simp -implicitDefEqProofs only [agR, Nat.reduceLeDiff, Nat.reduceSub, vaR, go_sem, ints, rows, rat, rats, ratsO, rtR, intsO, rowsO]
          simp -implicitDefEqProofs only [clR, Nat.reduceLeDiff, go_sem, evR, rat]
          refine CallW.pure (spec_l27Det_ok (n - 1) (by omega) (without m k i) q1) [29] rfl Try.call108 ?_ (by first | trivial | simp [T.noSh, T.noShL, rat]) rfl ?_
          · simp -implicitDefEqProofs only [agR, Nat.reduceLeDiff, Nat.reduceSub, vaR, go_sem, ints, rows, rat, rats, ratsO, rtR, intsO, rowsO]
          simp -implicitDefEqProofs only [go_sem, evR, ints, rows, rat, rats]
          have hs := sg_abs (i + k)
          have hw1 : IntKind.i64.wrap (sg (i + k) * detN (n - 1) (without m k i)) = sg (i + k) * detN (n - 1) (without m k i) := wrap64 (by rcases hs with h | h <;> rw [h] <;> omega) (by rcases hs with h | h <;> rw [h] <;> omega)
          have hal := adjRow_length n m i k
          refine ⟨by omega, hn2 _ (k + 1) (Weak.of _ _ [some 77, some 33] (by simp) (by simp) ?_ ?_) (by omega) (by omega)⟩
          · simp -implicitDefEqProofs only [ints, rows, Nat.reduceBEq, wkR, Nat.reduceEqDiff, ↓reduceIte, wrR, next64 (by omega : k < n) (by omega)]
          · refine ⟨⟨_, rfl, .refl _⟩, rfl, ⟨_, rfl, ?_⟩, rfl, trivial⟩
            rw [adjRow_succ, hw1]
            simp only [List.map_append, List.map_cons, List.map_nil]
            exact .refl _
        · simp -implicitDefEqProofs only [go_sem, evR, ints, rows, rat, rats]
          have hkn : k = n := by omega
          have hal : ((List.range i).map fun i => adjRow n m i n).length = i := by simp
          refine ⟨by simp only [List.length_map, List.length_range]; omega, hn' _ (i + 1) (Weak.of _ _ [some 37] (by simp) (by simp) ?_ ?_) (by omega) (by omega)⟩
          · simp -implicitDefEqProofs only [ints, rows, Nat.reduceBEq, wkR, Nat.reduceEqDiff, ↓reduceIte, wrR, next64 (by omega : i < n) (by omega)]
          · refine ⟨⟨_, rfl, ?_⟩, rfl, trivial⟩
            rw [adjM_succ, hkn]
            simp only [List.map_append, List.map_cons, List.map_nil]
            exact .refl _
    · simp -implicitDefEqProofs only [go_sem, evR, ints, rows, rat, rats]
      have : i = n := by omega
      rw [this]; rfl
end Go.Ab

/- Contracts: Determinant and Adjugate; the law FnExactDeterminant. -/
set_option linter.unusedSimpArgs false
set_option linter.unusedVariables false
namespace Go.Ab
open Go.Proofs

theorem headD_get {m : List (List Int)} {r : List Int} (h : m[0]? = some r) : m.headD [] = r := by
  cases m with
  | nil => simp at h
  | cons a m => simpa using h
end Go.Ab

/- Contracts: sums of products of ratios, gains; the program's. -/
set_option linter.unusedSimpArgs false
set_option linter.unusedVariables false
namespace Go.Ab
open Go.Proofs

theorem impl_MultiplyRatios_p (a b : Int × Int) : Pure Try.prog 122 [rat a, rat b] (redT (mulR a b)) := impl_MultiplyRatios_ok a b
theorem impl_AddRatios_p (a b : Int × Int) : Pure Try.prog 111 [rat a, rat b] (redT (addR a b)) := impl_AddRatios_ok a b

/-- The sum of products, formed in order, or the first error. -/
def spGo : Int × Int → List ((Int × Int) × (Int × Int)) → (Int × Int) × Int
  | s, [] => (s, 0)
  | s, x :: l => if (mulR x.1 x.2).2 ≠ 0 then ((0, 0), (mulR x.1 x.2).2) else if (addR s (mulR x.1 x.2).1).2 ≠ 0 then ((0, 0), (addR s (mulR x.1 x.2).1).2) else spGo (addR s (mulR x.1 x.2).1).1 l
def spR (a b : List (Int × Int)) : (Int × Int) × Int := spGo (0, 1) (a.zip b)
theorem zip_get {α β : Type} {a : List α} {b : List β} {i : Nat} {x : α} {y : β} (hx : a[i]? = some x) (hy : b[i]? = some y) : (a.zip b)[i]? = some (x, y) := by
  rw [List.getElem?_zip_eq_some]; exact ⟨hx, hy⟩

theorem impl_sumOfProducts_ok (a b : List (Int × Int)) (hab : a.length ≤ b.length) (ha : a.length ≤ 1000000000000) : Pure Try.prog 114 [rats a, rats b] (redT (spR a b)) := by
  refine fun_impl_sumOfProducts (by simp) ?_
  simp -implicitDefEqProofs only [go_sem, evR, ints, rows, rat, rats, c_impl_sumOfProducts]
  refine SemC.loopR (σ := Nat × (Int × Int)) (fun s => St.of [(0, .t (rats a)), (1, .t (rats b)), (4, .own 4), (6, .own 6), (12, .t (.i a.length)), (13, .t (.i s.1))] [(4, .box [.i 0, .i 0]), (6, .box [.i s.2.1, .i s.2.2])]) (fun s => s.1 ≤ a.length ∧ spGo s.2 ((a.zip b).drop s.1) = spR a b) (fun s => a.length - s.1) (0, (0, 1)) (Weak.of _ _ [some 4, some 6] (by simp) (by simp) ?_ ?_) ⟨by simp, rfl⟩ fun s hI R hn hr he => ?_
  · simp -implicitDefEqProofs only [ints, rows, Nat.reduceBEq, wkR, Nat.reduceEqDiff, ↓reduceIte, wrR, rats]
  · exact ⟨⟨_, rfl, .refl _⟩, rfl, ⟨_, rfl, .refl _⟩, rfl, trivial⟩
  · obtain ⟨i, s1, s2⟩ := s
    obtain ⟨hi, hm⟩ := hI
    (try simp only [] at hi hm)
    simp -implicitDefEqProofs only [go_sem, evR, ints, rows, rat, rats]
    refine ⟨fun h => ?_, fun h => he _ _ ?_⟩
    · obtain ⟨x, hx⟩ : ∃ x, a[i]? = some x := ⟨_, List.getElem?_eq_getElem (by omega)⟩
      obtain ⟨y, hy⟩ : ∃ y, b[i]? = some y := ⟨_, List.getElem?_eq_getElem (by omega)⟩
      refine ⟨by omega, by rw [ratC_length]; omega, by rw [ratC_length]; omega, by omega, by rw [ratC_length]; omega, by rw [ratC_length]; omega, ?_⟩
      rw [ratC_at hx, ratC_at hy]
      rw [drop_of_get (zip_get hx hy), spGo] at hm
      refine CallV.pure (impl_MultiplyRatios_p x y) [] rfl Try.call122 (fun e R' hR => ?_) (by first | trivial | simp [T.noSh, T.noShL, rat]) (fun _ => rfl) ?_
      · simp -implicitDefEqProofs only [agR, Nat.reduceLeDiff, Nat.reduceSub, vaR, go_sem, ints, rows, rat, rats, ratsO, rtR, intsO, rowsO]
      simp -implicitDefEqProofs only [go_sem, evR, ints, rows, rat, rats, redT, rat]
      refine ⟨fun h1 => hr _ ?_, fun h1 => ?_⟩
      · have h1 : (mulR x y).2 ≠ 0 := by simpa using h1
        simp -implicitDefEqProofs only [go_sem, evR, ints, rows, rat, rats]
        rw [← hm, if_pos h1]; rfl
      · have h1 : (mulR x y).2 = 0 := by simpa using h1
        rw [if_neg (by simp [h1])] at hm
        refine CallW.pure (impl_AddRatios_p (s1, s2) (mulR x y).1) [] rfl Try.call111 ?_ (by first | trivial | simp [T.noSh, T.noShL, rat]) rfl ?_
        · simp -implicitDefEqProofs only [agR, Nat.reduceLeDiff, Nat.reduceSub, vaR, go_sem, ints, rows, rat, rats, ratsO, rtR, intsO, rowsO]
        simp -implicitDefEqProofs only [go_sem, evR, ints, rows, rat, rats, redT, rat]
        refine ⟨fun h2 => hr _ ?_, fun h2 => ?_⟩
        · have h2 : (addR (s1, s2) (mulR x y).1).2 ≠ 0 := by simpa using h2
          simp -implicitDefEqProofs only [go_sem, evR, ints, rows, rat, rats]
          rw [← hm, if_pos h2]; rfl
        · have h2 : (addR (s1, s2) (mulR x y).1).2 = 0 := by simpa using h2
          rw [if_neg (by simp [h2])] at hm
          refine hn _ (i + 1, (addR (s1, s2) (mulR x y).1).1) (Weak.of _ _ [some 4, some 6] (by simp) (by simp) ?_ ?_) ⟨by simp only []; omega, hm⟩ (by simp only []; omega)
          · simp -implicitDefEqProofs only [ints, rows, Nat.reduceBEq, wkR, Nat.reduceEqDiff, ↓reduceIte, wrR, rats, next64 (by omega : i < a.length) ha]
          · exact ⟨⟨_, rfl, .refl _⟩, rfl, ⟨_, rfl, .refl _⟩, rfl, trivial⟩
    · simp -implicitDefEqProofs only [go_sem, evR, ints, rows, rat, rats]
      rw [List.drop_of_length_le (by rw [List.length_zip]; omega), spGo] at hm
      rw [← hm]; rfl
end Go.Ab

/- Contracts: sums of products of ratios, gains; the reference's. -/
set_option linter.unusedSimpArgs false
set_option linter.unusedVariables false
namespace Go.Ab
open Go.Proofs

/-- The same with a code that stops all. -/
def gainGo : Int → Int × Int → List ((Int × Int) × (Int × Int)) → (Int × Int) × Int
  | c, s, [] => (s, c)
  | c, s, x :: l => gainGo (stepA (stepM c x.1 x.2).2 s (stepM c x.1 x.2).1).2 (stepA (stepM c x.1 x.2).2 s (stepM c x.1 x.2).1).1 l
theorem stepA_err {c : Int} (h : c ≠ 0) (a b : Int × Int) : stepA c a b = ((0, 1), c) := if_pos h
theorem stepM_err {c : Int} (h : c ≠ 0) (a b : Int × Int) : stepM c a b = ((0, 1), c) := if_pos h
theorem stepA_zero (a b : Int × Int) : stepA 0 a b = addR a b := if_neg (by simp)
theorem stepM_zero (a b : Int × Int) : stepM 0 a b = mulR a b := if_neg (by simp)
theorem gainGo_err : ∀ (l : List ((Int × Int) × (Int × Int))) (c : Int) (s : Int × Int), c ≠ 0 → (gainGo c s l).2 = c
  | [], c, s, h => rfl
  | x :: l, c, s, h => by rw [gainGo, stepM_err h, stepA_err h]; exact gainGo_err l c _ h
theorem gainGo_spec : ∀ (l : List ((Int × Int) × (Int × Int))) (s : Int × Int), (gainGo 0 s l).2 = (spGo s l).2 ∧ ((spGo s l).2 = 0 → (gainGo 0 s l).1 = (spGo s l).1)
  | [], s => ⟨rfl, fun _ => rfl⟩
  | x :: l, s => by
    rw [gainGo, spGo, stepM_zero]
    by_cases h1 : (mulR x.1 x.2).2 = 0
    · rw [h1, stepA_zero, if_neg (by simp)]
      by_cases h2 : (addR s (mulR x.1 x.2).1).2 = 0
      · rw [h2, if_neg (by simp)]; exact gainGo_spec l _
      · rw [if_pos h2]; exact ⟨gainGo_err l _ _ h2, fun h => absurd h h2⟩
    · rw [if_pos h1, stepA_err h1]; exact ⟨gainGo_err l _ _ h1, fun h => absurd h h1⟩

def ones (r : List Int) : List (Int × Int) := r.map fun x => (x, 1)
theorem ones_length (r : List Int) : (ones r).length = r.length := by simp [ones]
theorem ones_get {r : List Int} {i : Nat} {x : Int} (h : r[i]? = some x) : (ones r)[i]? = some (x, 1) := by simp [ones, h]
def gainC (c : Int) (q : List (Int × Int)) (r : List Int) : (Int × Int) × Int := gainGo c (0, 1) (q.zip (ones r))

theorem spec_l26Gain_ok (c : Int) (q : List (Int × Int)) (r : List Int) (hqr : q.length ≤ r.length) (hq : q.length ≤ 1000000000000) : Fun Try.prog 117 [.box [.i c]] [.own 1000000000, .t (rats q), .t (ints r)] fun o res => o = [.box [.i (gainC c q r).2]] ∧ res = rat (gainC c q r).1 := by
  refine fun_spec_l26Gain (by simp) ?_
  simp -implicitDefEqProofs only [go_sem, evR, ints, rows, rat, rats, c_spec_l26Gain]
  refine CallW.pure (spec_l19Whole_ok 0) [] rfl Try.call86 ?_ (by first | trivial | simp [T.noSh, T.noShL, rat]) rfl ?_
  · simp -implicitDefEqProofs only [agR, Nat.reduceLeDiff, Nat.reduceSub, vaR, go_sem, ints, rows, rat, rats, ratsO, rtR, intsO, rowsO]
  simp -implicitDefEqProofs only [go_sem, evR, ints, rows, rat, rats]
  refine SemC.loopR (σ := Nat × Int × (Int × Int)) (fun s => St.of [(0, .own 1000000000), (1, .t (rats q)), (2, .t (ints r)), (6, .own 6), (7, .own 7), (8, .t (.i s.1))] [(6, .box [.i 0, .i 0]), (7, .box [.i s.2.2.1, .i s.2.2.2]), (1000000000, .box [.i s.2.1])]) (fun s => s.1 ≤ q.length ∧ gainGo s.2.1 s.2.2 ((q.zip (ones r)).drop s.1) = gainC c q r) (fun s => q.length - s.1) (0, c, (0, 1)) (Weak.of _ _ [some 6, some 7, some 1000000000] (by simp) (by simp) ?_ ?_) ⟨by simp, rfl⟩ fun s hI R hn' hr he => ?_
  · simp -implicitDefEqProofs only [ints, rows, Nat.reduceBEq, wkR, Nat.reduceEqDiff, ↓reduceIte, wrR, rats]
  · exact ⟨⟨_, rfl, .refl _⟩, rfl, ⟨_, rfl, .refl _⟩, rfl, ⟨_, rfl, .refl _⟩, rfl, trivial⟩
  · obtain ⟨i, c', s1, s2⟩ := s
    obtain ⟨hi, hm⟩ := hI
    (try simp only [] at hi hm)
    simp -implicitDefEqProofs only [go_sem, evR, ints, rows, rat, rats]
    refine ⟨fun h => ?_, fun h => he _ _ ?_⟩
    · obtain ⟨x, hx⟩ : ∃ x, q[i]? = some x := ⟨_, List.getElem?_eq_getElem (by omega)⟩
      obtain ⟨y, hy⟩ : ∃ y, r[i]? = some y := ⟨_, List.getElem?_eq_getElem (by omega)⟩
      rw [drop_of_get (zip_get hx (ones_get hy)), gainGo] at hm
      refine ⟨by omega, by rw [ratC_length]; omega, by rw [ratC_length]; omega, by omega, by omega, by omega, fun y' hy' => ?_⟩
      rw [hy] at hy'; cases hy'
      rw [ratC_at hx]
      refine CallV.pure (spec_l19Whole_ok y) [] rfl Try.call86 (fun e R' hR => ?_) (by first | trivial | simp [T.noSh, T.noShL, rat]) (fun _ => rfl) ?_
      · simp -implicitDefEqProofs only [agR, Nat.reduceLeDiff, Nat.reduceSub, vaR, go_sem, ints, rows, rat, rats, ratsO, rtR, intsO, rowsO]
      simp -implicitDefEqProofs only [go_sem, evR, ints, rows, rat, rats]
      refine CallH.ref (spec_l19Times_ok c' x (y, 1)) [1000000000] [] rfl Try.call125 (by simp) ?_ (by simp) (fun e R' hR => ?_) (.inl rfl) ?_
      · simp -implicitDefEqProofs only [srR, Nat.reduceEqDiff, ↓reduceIte, ints, rows, intsO, rowsO]
      · simp -implicitDefEqProofs only [agR, Nat.reduceLeDiff, Nat.reduceSub, vaR, go_sem, ints, rows, rat, rats, ratsO, rtR, intsO, rowsO]
      simp -implicitDefEqProofs only [clR, Nat.reduceLeDiff, go_sem, evR, rat]
      refine ⟨?_, (frameOK.refl _ _ _).upd _ (.inl (by simp))⟩
      refine CallH.ref (spec_l19Add_ok (stepM c' x (y, 1)).2 (s1, s2) (stepM c' x (y, 1)).1) [1000000000] [] rfl Try.call116 (by simp) ?_ (by simp) (fun e R' hR => ?_) (.inl rfl) ?_
      · simp -implicitDefEqProofs only [srR, Nat.reduceEqDiff, ↓reduceIte, ints, rows, intsO, rowsO]
      · simp -implicitDefEqProofs only [agR, Nat.reduceLeDiff, Nat.reduceSub, vaR, go_sem, ints, rows, rat, rats, ratsO, rtR, intsO, rowsO]
      simp -implicitDefEqProofs only [clR, Nat.reduceLeDiff, go_sem, evR, rat]
      refine hn' _ (i + 1, (stepA (stepM c' x (y, 1)).2 (s1, s2) (stepM c' x (y, 1)).1).2, (stepA (stepM c' x (y, 1)).2 (s1, s2) (stepM c' x (y, 1)).1).1) (Weak.of _ _ [some 6, some 7, some 1000000000] (by simp) (by simp) ?_ ?_) ⟨by simp only []; omega, hm⟩ (by simp only []; omega)
      · simp -implicitDefEqProofs only [ints, rows, Nat.reduceBEq, wkR, Nat.reduceEqDiff, ↓reduceIte, wrR, rats, next64 (by omega : i < q.length) hq]
      · exact ⟨⟨_, rfl, .refl _⟩, rfl, ⟨_, rfl, .refl _⟩, rfl, ⟨_, rfl, .refl _⟩, rfl, trivial⟩
    · simp -implicitDefEqProofs only [go_sem, evR, ints, rows, rat, rats]
      rw [List.drop_of_length_le (by rw [List.length_zip, ones_length]; omega), gainGo] at hm
      rw [← hm]; exact ⟨rfl, rfl⟩
end Go.Ab

/- Contracts: gains of all rows; the program's. -/
set_option linter.unusedSimpArgs false
set_option linter.unusedVariables false
namespace Go.Ab
open Go.Proofs

def gainsGo (q : List (Int × Int)) : List (List Int) → List (Int × Int) × Int
  | [] => ([], 0)
  | r :: m => if (spR q (ones r)).2 ≠ 0 then ([], (spR q (ones r)).2) else if (gainsGo q m).2 ≠ 0 then ([], (gainsGo q m).2) else ((spR q (ones r)).1 :: (gainsGo q m).1, 0)
def gjoin (g : List (Int × Int)) (x : List (Int × Int) × Int) : List (Int × Int) × Int := if x.2 ≠ 0 then ([], x.2) else (g ++ x.1, 0)
theorem gainsGo_err (q : List (Int × Int)) : ∀ (m : List (List Int)), (gainsGo q m).2 ≠ 0 → (gainsGo q m).1 = []
  | [], h => absurd rfl h
  | r :: m, h => by
    rw [gainsGo] at h ⊢
    split
    · rfl
    · rename_i h1
      rw [if_neg h1] at h
      split
      · rfl
      · rename_i h2; rw [if_neg h2] at h; exact absurd rfl h
theorem gjoin_nil (q : List (Int × Int)) (m : List (List Int)) : gjoin [] (gainsGo q m) = gainsGo q m := by
  rw [gjoin]; split
  · rename_i h; rw [← gainsGo_err q m h]
  · rename_i h
    have : (gainsGo q m).2 = 0 := by omega
    rw [List.nil_append, ← this]
theorem gainsGo_length (q : List (Int × Int)) : ∀ (m : List (List Int)), (gainsGo q m).2 = 0 → (gainsGo q m).1.length = m.length
  | [], h => rfl
  | r :: m, h => by
    rw [gainsGo] at h ⊢
    split at h
    · rename_i h1; exact absurd h h1
    · rename_i h1
      rw [if_neg h1]
      split at h
      · rename_i h2; exact absurd h h2
      · rename_i h2
        rw [if_neg h2, List.length_cons, List.length_cons, gainsGo_length q m (by omega)]
def gT (x : List (Int × Int) × Int) : T := .tup [ratsO x.1, .i x.2]
theorem gT_noSh (x : List (Int × Int) × Int) : (gT x).noSh := ⟨ratsO_noSh _, trivial, trivial⟩
theorem Fun.gT_nil {P : Program} {f : FuncId} {rin : List T} {args : List A} {x : List (Int × Int) × Int} {o0 : List T} (h : Fun P f rin args fun o r => o = o0 ∧ (r = gT x ∨ (x.1 = [] ∧ r = .tup [.v (.slice none 0 0), .i x.2]))) : Fun P f rin args fun o r => o = o0 ∧ r = gT x := by
  refine Fun.le h ?_
  rintro o r ⟨rfl, rfl | ⟨h, rfl⟩⟩
  · exact ⟨_, .refl _, rfl, rfl⟩
  · refine ⟨_, ?_, rfl, rfl⟩
    rw [gT, h]
    exact .tup2 (.nilArr 2) (.refl _)

theorem impl_gainsOf_ok (m : List (List Int)) (q : List (Int × Int)) (hq : q.length ≤ 1000000) (hm : m.length ≤ 1000000) (hr : ∀ r ∈ m, q.length ≤ r.length ∧ r.length ≤ 1000000) : Fun Try.prog 89 [] [.t (rows m), .t (rats q)] fun o r => o = [] ∧ r = gT (gainsGo q m) := by
  refine Fun.gT_nil ?_
  refine fun_impl_gainsOf (by simp) ?_
  simp -implicitDefEqProofs only [go_sem, evR, ints, rows, rat, rats, c_impl_gainsOf]
  refine SemC.loopR (σ := Nat × List (Int × Int)) (fun s => St.of [(0, .t (rows m)), (1, .t (rats q)), (6, .own 77), (14, .t (rows m)), (15, .t (.i m.length)), (16, .t (.i s.1))] [(77, .arr 2 (ratC s.2))]) (fun s => s.1 ≤ m.length ∧ s.2.length = s.1 ∧ gjoin s.2 (gainsGo q (m.drop s.1)) = gainsGo q m) (fun s => m.length - s.1) (0, []) (Weak.of _ _ [none] (by simp) (by simp) ?_ ?_) ⟨by simp, rfl, gjoin_nil q m⟩ fun s hI R hn hr0 he => ?_
  · simp -implicitDefEqProofs only [ints, rows, Nat.reduceBEq, wkR, Nat.reduceEqDiff, ↓reduceIte, wrR, rats]
  · exact ⟨⟨2, rfl⟩, trivial⟩
  · obtain ⟨i, g⟩ := s
    obtain ⟨hi, hgl, hg⟩ := hI
    (try simp only [] at hi hgl hg)
    simp -implicitDefEqProofs only [go_sem, evR, ints, rows, rat, rats]
    refine ⟨fun h => ⟨by omega, by omega, by omega, fun r hrow => ?_⟩, fun h => he _ _ ?_⟩
    · obtain ⟨hrl, hrl2⟩ := hr r (List.mem_of_getElem? hrow)
      rw [drop_of_get hrow, gainsGo] at hg
      refine ⟨by omega, by omega, ?_⟩
      have hol := ones_length r
      refine SemC.loopR (σ := Nat) (fun j => St.of [(0, .t (rows m)), (1, .t (rats q)), (6, .own 77), (8, .t (ints r)), (9, .own 22), (14, .t (rows m)), (15, .t (.i m.length)), (16, .t (.i i)), (23, .t (ints r)), (24, .t (.i r.length)), (25, .t (.i j))] [(77, .arr 2 (ratC g)), (22, .arr 2 (ratC (rfilled (ones r) j)))]) (fun j => j ≤ r.length) (fun j => r.length - j) 0 (Weak.of _ _ [some 77, some 22] (by simp) (by simp) ?_ ?_) (by simp) fun j hj R2 hn2 hr2 he2 => ?_
      · simp -implicitDefEqProofs only [ints, rows, Nat.reduceBEq, wkR, Nat.reduceEqDiff, ↓reduceIte, wrR, rats]
      · exact ⟨⟨_, rfl, .refl _⟩, rfl, ⟨_, rfl, by rw [ratC_replicate]; simp only [rfilled, List.take_zero, List.nil_append, Nat.sub_zero, hol]; exact .refl _⟩, rfl, trivial⟩
      · have hlen := rfilled_length (ones r) j (by omega)
        simp -implicitDefEqProofs only [go_sem, evR, ints, rows, rat, rats]
        refine ⟨fun h1 => ⟨by omega, by omega, by omega, fun x hx => ⟨by omega, by rw [ratC_length]; omega, by rw [ratC_length]; omega, hn2 _ (j + 1) (Weak.of _ _ [some 77, some 22] (by simp) (by simp) ?_ ?_) (by omega) (by omega)⟩⟩, fun h1 => he2 _ _ ?_⟩
        · simp -implicitDefEqProofs only [ints, rows, Nat.reduceBEq, wkR, Nat.reduceEqDiff, ↓reduceIte, wrR, rats, next64 (by omega : j < r.length) (by omega)]
        · refine ⟨⟨_, rfl, .refl _⟩, rfl, ⟨_, rfl, ?_⟩, rfl, trivial⟩
          (try simp only [List.cons_append, List.nil_append, List.append_assoc])
          have := ratC_set (l := rfilled (ones r) j) (i := j) (x, 1) (by omega)
          simp only [List.append_assoc, List.cons_append, List.nil_append] at this
          rw [this, rfilled_set (ones_get hx)]; exact .refl _
        · have hje : j = (ones r).length := by omega
          rw [hje, rfilled_all]
          simp -implicitDefEqProofs only [go_sem, evR, ints, rows, rat, rats]
          refine CallW.pure (impl_sumOfProducts_ok q (ones r) (by omega) (by omega)) [22] rfl Try.call114 ?_ (by first | trivial | simp [T.noSh, T.noShL, rat]) rfl ?_
          · simp -implicitDefEqProofs only [agR, Nat.reduceLeDiff, Nat.reduceSub, vaR, go_sem, ints, rows, rat, rats, ratsO, rtR, intsO, rowsO]
          simp -implicitDefEqProofs only [go_sem, evR, ints, rows, rat, rats, redT, rat]
          refine ⟨fun h2 => hr0 _ ?_, fun h2 => ?_⟩
          · have h2 : (spR q (ones r)).2 ≠ 0 := by simpa using h2
            rw [if_pos h2, gjoin, if_pos h2] at hg
            simp -implicitDefEqProofs only [go_sem, evR, ints, rows, rat, rats]
            exact .inr ⟨by rw [← hg], by rw [← hg]⟩
          · have h2 : (spR q (ones r)).2 = 0 := by simpa using h2
            rw [if_neg (by simp [h2])] at hg
            refine ⟨by rw [ratC_length]; omega, hn _ (i + 1, g ++ [(spR q (ones r)).1]) (Weak.of _ _ [some 48] (by simp) (by simp) ?_ ?_) ⟨by simp only []; omega, by simp; omega, ?_⟩ (by simp only []; omega)⟩
            · simp -implicitDefEqProofs only [ints, rows, Nat.reduceBEq, wkR, Nat.reduceEqDiff, ↓reduceIte, wrR, rats, next64 (by omega : i < m.length) (by omega)]
            · refine ⟨⟨_, rfl, ?_⟩, rfl, trivial⟩
              rw [ratC_append]; exact .refl _
            · simp only []
              rw [← hg]
              by_cases h3 : (gainsGo q (m.drop (i + 1))).2 = 0
              · rw [if_neg (by simp [h3]), gjoin, gjoin, if_neg (by simp [h3]), if_neg (by simp)]; simp
              · rw [if_pos h3, gjoin, gjoin, if_pos h3, if_pos h3]
    · simp -implicitDefEqProofs only [go_sem, evR, ints, rows, rat, rats]
      have : i = m.length := by omega
      rw [List.drop_of_length_le (by omega), gainsGo, gjoin] at hg
      left
      rw [← hg]; simp [gT, ratsO]
end Go.Ab

/- Contracts: gains of all rows and of all columns; the reference's. -/
set_option linter.unusedSimpArgs false
set_option linter.unusedVariables false
namespace Go.Ab
open Go.Proofs

theorem spec_l26Column_ok (m : List (List Int)) (k : Nat) (hm : m.length ≤ 1000000) (hr : ∀ r ∈ m, k < r.length ∧ r.length ≤ 1000000) : Fun Try.prog 106 [] [.t (rows m), .t (.i k)] fun o r => o = [] ∧ r = intsO (colOf m k) := by
  refine fun_spec_l26Column (by simp) ?_
  simp -implicitDefEqProofs only [go_sem, evR, ints, rows, rat, rats, c_spec_l26Column]
  refine SemC.loopR (σ := Nat) (fun i => St.of [(0, .t (rows m)), (1, .t (.i k)), (5, .own 77), (6, .t (.i i))] [(77, .arr 1 ((colI m k i).map T.i))]) (fun i => i ≤ m.length) (fun i => m.length - i) 0 (Weak.of _ _ [some 7] (by simp) (by simp) ?_ ?_) (by simp) fun i hi R hn hr' he => ?_
  · simp -implicitDefEqProofs only [ints, rows, Nat.reduceBEq, wkR, Nat.reduceEqDiff, ↓reduceIte, wrR]
  · exact ⟨⟨_, rfl, .refl _⟩, rfl, trivial⟩
  · simp -implicitDefEqProofs only [go_sem, evR, ints, rows, rat, rats]
    refine ⟨fun h => ⟨by omega, by omega, by omega, fun r hrow => ?_⟩, fun h => he _ _ ?_⟩
    · have hrl := hr r (List.mem_of_getElem? hrow)
      refine ⟨by omega, by omega, by omega, fun x hx => ?_⟩
      have hcl : (colI m k i).length ≤ 1000000 := by simp [colI]; omega
      refine ⟨by omega, hn _ (i + 1) (Weak.of _ _ [some 23] (by simp) (by simp) ?_ ?_) (by omega) (by omega)⟩
      · simp -implicitDefEqProofs only [ints, rows, Nat.reduceBEq, wkR, Nat.reduceEqDiff, ↓reduceIte, wrR, next64 (by omega : i < m.length) (by omega)]
      · refine ⟨⟨_, rfl, ?_⟩, rfl, trivial⟩
        have e : colI m k (i + 1) = colI m k i ++ [x] := by
          rw [colI, take_snoc hrow]
          simp only [colI, List.map_append, List.map_cons, List.map_nil]
          rw [List.getD_eq_getElem?_getD, hx]; rfl
        rw [e]
        simp only [List.map_append, List.map_cons, List.map_nil]
        exact .refl _
    · simp -implicitDefEqProofs only [go_sem, evR, ints, rows, rat, rats]
      have : i = m.length := by omega
      rw [this, colI, List.take_length]; rfl

def rowsGo (q : List (Int × Int)) : Int → List (List Int) → List (Int × Int) × Int
  | c, [] => ([], c)
  | c, r :: m => ((gainC c q r).1 :: (rowsGo q (gainC c q r).2 m).1, (rowsGo q (gainC c q r).2 m).2)
def rjoin (g : List (Int × Int)) (x : List (Int × Int) × Int) : List (Int × Int) × Int := (g ++ x.1, x.2)
theorem rjoin_cons (q : List (Int × Int)) (g : List (Int × Int)) (c : Int) (r : List Int) (m : List (List Int)) : rjoin g (rowsGo q c (r :: m)) = rjoin (g ++ [(gainC c q r).1]) (rowsGo q (gainC c q r).2 m) := by
  simp [rjoin, rowsGo]
theorem rowsGo_err (q : List (Int × Int)) : ∀ (m : List (List Int)) (c : Int), c ≠ 0 → (rowsGo q c m).2 = c
  | [], c, h => rfl
  | r :: m, c, h => by
    have : (gainC c q r).2 = c := gainGo_err _ _ _ h
    rw [rowsGo]; simp only []
    rw [this]; exact rowsGo_err q m c h
/-- Both ways of gathering gains. -/
theorem rowsGo_spec (q : List (Int × Int)) : ∀ (m : List (List Int)), (rowsGo q 0 m).2 = (gainsGo q m).2 ∧ ((gainsGo q m).2 = 0 → (rowsGo q 0 m).1 = (gainsGo q m).1)
  | [] => ⟨rfl, fun _ => rfl⟩
  | r :: m => by
    have hg : (gainC 0 q r).2 = (spR q (ones r)).2 ∧ ((spR q (ones r)).2 = 0 → (gainC 0 q r).1 = (spR q (ones r)).1) := gainGo_spec _ _
    rw [rowsGo, gainsGo]
    simp only []
    by_cases h1 : (spR q (ones r)).2 = 0
    · rw [hg.1, h1, if_neg (by simp)]
      obtain ⟨h2, h3⟩ := rowsGo_spec q m
      by_cases h4 : (gainsGo q m).2 = 0
      · rw [h4, if_neg (by simp)]
        exact ⟨by rw [h2, h4], fun _ => by rw [h3 h4, hg.2 h1]⟩
      · rw [if_pos h4]
        exact ⟨h2, fun h => absurd h h4⟩
    · rw [hg.1, if_pos h1]
      exact ⟨rowsGo_err q m _ h1, fun h => absurd h h1⟩

theorem spec_l26Rows_ok (c : Int) (m : List (List Int)) (q : List (Int × Int)) (hq : q.length ≤ 1000000) (hm : m.length ≤ 1000000) (hr : ∀ r ∈ m, q.length ≤ r.length) : Fun Try.prog 95 [.box [.i c]] [.own 1000000000, .t (rows m), .t (rats q)] fun o r => o = [.box [.i (rowsGo q c m).2]] ∧ r = ratsO (rowsGo q c m).1 := by
  refine fun_spec_l26Rows (by simp) ?_
  simp -implicitDefEqProofs only [go_sem, evR, ints, rows, rat, rats, c_spec_l26Rows]
  refine SemC.loopR (σ := Nat × Int × List (Int × Int)) (fun s => St.of [(0, .own 1000000000), (1, .t (rows m)), (2, .t (rats q)), (7, .own 77), (8, .t (.i s.1))] [(77, .arr 2 (ratC s.2.2)), (1000000000, .box [.i s.2.1])]) (fun s => s.1 ≤ m.length ∧ s.2.2.length = s.1 ∧ rjoin s.2.2 (rowsGo q s.2.1 (m.drop s.1)) = rowsGo q c m) (fun s => m.length - s.1) (0, c, []) (Weak.of _ _ [some 9, some 1000000000] (by simp) (by simp) ?_ ?_) ⟨by simp, rfl, rfl⟩ fun s hI R hn hr0 he => ?_
  · simp -implicitDefEqProofs only [ints, rows, Nat.reduceBEq, wkR, Nat.reduceEqDiff, ↓reduceIte, wrR, rats]
  · exact ⟨⟨_, rfl, .refl _⟩, rfl, ⟨_, rfl, .refl _⟩, rfl, trivial⟩
  · obtain ⟨i, c', g⟩ := s
    obtain ⟨hi, hgl, hg⟩ := hI
    (try simp only [] at hi hgl hg)
    simp -implicitDefEqProofs only [go_sem, evR, ints, rows, rat, rats]
    refine ⟨fun h => ⟨by omega, by omega, by omega, fun r hrow => ?_⟩, fun h => he _ _ ?_⟩
    · rw [drop_of_get hrow, rjoin_cons] at hg
      refine CallW.ref (spec_l26Gain_ok c' q r (hr r (List.mem_of_getElem? hrow)) (by omega)) [1000000000] [] rfl Try.call117 (by simp) ?_ (by simp) ?_ (.inl rfl) ?_
      · simp -implicitDefEqProofs only [srR, Nat.reduceEqDiff, ↓reduceIte, ints, rows, intsO, rowsO]
      · simp -implicitDefEqProofs only [agR, Nat.reduceLeDiff, Nat.reduceSub, vaR, go_sem, ints, rows, rat, rats, ratsO, rtR, intsO, rowsO]
      simp -implicitDefEqProofs only [clR, Nat.reduceLeDiff, go_sem, evR, rat, rat]
      refine ⟨by rw [ratC_length]; omega, hn _ (i + 1, (gainC c' q r).2, g ++ [(gainC c' q r).1]) (Weak.of _ _ [some 25, some 1000000000] (by simp) (by simp) ?_ ?_) ⟨by simp only []; omega, by simp; omega, hg⟩ (by simp only []; omega)⟩
      · simp -implicitDefEqProofs only [ints, rows, Nat.reduceBEq, wkR, Nat.reduceEqDiff, ↓reduceIte, wrR, rats, next64 (by omega : i < m.length) (by omega)]
      · refine ⟨⟨_, rfl, ?_⟩, rfl, ⟨_, rfl, .refl _⟩, rfl, trivial⟩
        rw [ratC_append]; exact .refl _
    · simp -implicitDefEqProofs only [go_sem, evR, ints, rows, rat, rats]
      have : i = m.length := by omega
      rw [List.drop_of_length_le (by omega), rowsGo, rjoin, List.append_nil] at hg
      rw [← hg]; exact ⟨rfl, rfl⟩
end Go.Ab

/- Contracts: RowGains and ColumnGains. -/
set_option linter.unusedSimpArgs false
set_option linter.unusedVariables false
namespace Go.Ab
open Go.Proofs

theorem tr_drop {m : List (List Int)} {c k : Nat} (h : k < c) : (tr m c)[k]? = some (colOf m k) := by simp [tr, h]
theorem spec_l26Columns_ok (c : Int) (m : List (List Int)) (n : Nat) (q : List (Int × Int)) (hm0 : m ≠ []) (hq : q.length = m.length) (hm : m.length ≤ 1000000) (hn0 : n ≤ 1000000) (hr : rect m n) : Fun Try.prog 96 [.box [.i c]] [.own 1000000000, .t (rows m), .t (rats q)] fun o r => o = [.box [.i (rowsGo q c (tr m n)).2]] ∧ r = ratsO (rowsGo q c (tr m n)).1 := by
  have hpos : 0 < m.length := List.length_pos_iff.2 hm0
  refine fun_spec_l26Columns (by simp) ?_
  simp -implicitDefEqProofs only [go_sem, evR, ints, rows, rat, rats, c_spec_l26Columns]
  have htl : (tr m n).length = n := by simp [tr]
  refine SemC.loopR (σ := Nat × Int × List (Int × Int)) (fun s => St.of [(0, .own 1000000000), (1, .t (rows m)), (2, .t (rats q)), (7, .own 77), (8, .t (.i s.1))] [(77, .arr 2 (ratC s.2.2)), (1000000000, .box [.i s.2.1])]) (fun s => s.1 ≤ n ∧ s.2.2.length = s.1 ∧ rjoin s.2.2 (rowsGo q s.2.1 ((tr m n).drop s.1)) = rowsGo q c (tr m n)) (fun s => n - s.1) (0, c, []) (Weak.of _ _ [some 9, some 1000000000] (by simp) (by simp) ?_ ?_) ⟨by simp, rfl, rfl⟩ fun s hI R hn hr0 he => ?_
  · simp -implicitDefEqProofs only [ints, rows, Nat.reduceBEq, wkR, Nat.reduceEqDiff, ↓reduceIte, wrR, rats]
  · exact ⟨⟨_, rfl, .refl _⟩, rfl, ⟨_, rfl, .refl _⟩, rfl, trivial⟩
  · obtain ⟨i, c', g⟩ := s
    obtain ⟨hi, hgl, hg⟩ := hI
    (try simp only [] at hi hgl hg)
    simp -implicitDefEqProofs only [go_sem, evR, ints, rows, rat, rats]
    refine ⟨by omega, by omega, fun r0 h0 => ?_⟩
    have hr0l := hr r0 (List.mem_of_getElem? h0)
    rw [hr0l]
    refine ⟨fun h => ?_, fun h => he _ _ ?_⟩
    · have hin : i < n := by omega
      rw [drop_of_get (tr_drop hin), rjoin_cons] at hg
      refine CallW.res (spec_l26Column_ok m i hm (fun r hr1 => by have := hr r hr1; omega)) [] rfl Try.call106 ?_ (.inl rfl) ?_
      · simp -implicitDefEqProofs only [agR, Nat.reduceLeDiff, Nat.reduceSub, vaR, go_sem, ints, rows, rat, rats, ratsO, rtR, intsO, rowsO]
      simp -implicitDefEqProofs only [clR, Nat.reduceLeDiff, go_sem, evR, rat]
      refine CallW.ref (spec_l26Gain_ok c' q (colOf m i) (by simp [colOf]; omega) (by omega)) [1000000000] [23] rfl Try.call117 (by simp) ?_ (by simp) ?_ (.inr ⟨⟨trivial, trivial, trivial⟩, ⟨trivial, trivial⟩, trivial⟩) ?_
      · simp -implicitDefEqProofs only [srR, Nat.reduceEqDiff, ↓reduceIte, ints, rows, intsO, rowsO]
      · simp -implicitDefEqProofs only [agR, Nat.reduceLeDiff, Nat.reduceSub, vaR, go_sem, ints, rows, rat, rats, ratsO, rtR, intsO, rowsO]
      simp -implicitDefEqProofs only [clR, Nat.reduceLeDiff, go_sem, evR, rat, rat]
      refine ⟨by rw [ratC_length]; omega, hn _ (i + 1, (gainC c' q (colOf m i)).2, g ++ [(gainC c' q (colOf m i)).1]) (Weak.of _ _ [some 26, some 1000000000] (by simp) (by simp) ?_ ?_) ⟨by simp only []; omega, by simp; omega, hg⟩ (by simp only []; omega)⟩
      · simp -implicitDefEqProofs only [ints, rows, Nat.reduceBEq, wkR, Nat.reduceEqDiff, ↓reduceIte, wrR, rats, next64 (by omega : i < n) (by omega)]
      · refine ⟨⟨_, rfl, ?_⟩, rfl, ⟨_, rfl, .refl _⟩, rfl, trivial⟩
        rw [ratC_append]; exact .refl _
    · simp -implicitDefEqProofs only [go_sem, evR, ints, rows, rat, rats]
      have : i = n := by omega
      rw [List.drop_of_length_le (by omega), rowsGo, rjoin, List.append_nil] at hg
      rw [← hg]; exact ⟨rfl, rfl⟩

end Go.Ab

/- Contracts: MatrixValue. -/
set_option linter.unusedSimpArgs false
set_option linter.unusedVariables false
namespace Go.Ab
open Go.Proofs

theorem ratC_cut_flat (l : List (Int × Int)) (a b : Nat) : (((ratC l).drop a).take b).all T.flat = true := by
  have h := ratC_all_flat l
  rw [List.all_eq_true] at h ⊢
  intro x hx
  exact h x (List.mem_of_mem_drop (List.mem_of_mem_take hx))
attribute [go_sem] ratC_cut_flat
end Go.Ab

/- The order of ratios; valid sums. -/
set_option linter.unusedSimpArgs false
set_option linter.unusedVariables false
namespace Go.Ab
open Go.Proofs

def cmpR (a b : Int × Int) : Int := if a.1 * b.2 < b.1 * a.2 then -1 else if b.1 * a.2 < a.1 * b.2 then 1 else 0
/-- a is at most b. -/
def leR (a b : Int × Int) : Prop := a.1 * b.2 ≤ b.1 * a.2
theorem cmpR_le {a b : Int × Int} : cmpR a b ≤ 0 ↔ leR a b := by
  unfold cmpR leR; split
  · omega
  · split <;> omega
theorem cmpR_ge {a b : Int × Int} : 0 ≤ cmpR a b ↔ leR b a := by
  unfold cmpR leR; split
  · omega
  · split <;> omega
theorem cmpR_gt {a b : Int × Int} : 0 < cmpR a b ↔ ¬ leR a b := by
  unfold cmpR leR; split
  · omega
  · split <;> omega
theorem cmpR_lt {a b : Int × Int} : cmpR a b < 0 ↔ ¬ leR b a := by
  unfold cmpR leR; split
  · omega
  · split <;> omega
theorem leR_refl (a : Int × Int) : leR a a := Int.le_refl _
theorem leR_total (a b : Int × Int) : leR a b ∨ leR b a := by unfold leR; omega
theorem leR_trans {a b c : Int × Int} (ha : 1 ≤ a.2) (hb : 1 ≤ b.2) (hc : 1 ≤ c.2) (h1 : leR a b) (h2 : leR b c) : leR a c := by
  unfold leR at *
  have e1 : a.1 * b.2 * c.2 ≤ b.1 * a.2 * c.2 := Int.mul_le_mul_of_nonneg_right h1 (by omega)
  have e2 : b.1 * c.2 * a.2 ≤ c.1 * b.2 * a.2 := Int.mul_le_mul_of_nonneg_right h2 (by omega)
  have e3 : b.1 * a.2 * c.2 = b.1 * c.2 * a.2 := by rw [Int.mul_assoc, Int.mul_comm a.2, ← Int.mul_assoc]
  have e4 : a.1 * c.2 * b.2 ≤ c.1 * a.2 * b.2 := by
    rw [Int.mul_assoc, Int.mul_comm c.2, ← Int.mul_assoc, Int.mul_assoc c.1, Int.mul_comm a.2, ← Int.mul_assoc]
    omega
  exact Int.le_of_mul_le_mul_right e4 (by omega)
theorem redR_valid {n d : Int} (h : (redR n d).2 = 0) : isRat (redR n d).1 = true := by
  unfold redR at h ⊢
  split
  · rename_i h1; exact h1
  · rename_i h1; rw [if_neg h1] at h; simp at h
theorem addR_valid {a b : Int × Int} (h : (addR a b).2 = 0) : isRat (addR a b).1 = true := by
  unfold addR at h ⊢
  split
  · rename_i h1; rw [if_pos h1] at h; exact redR_valid h
  · rename_i h1; rw [if_neg h1] at h; simp at h
theorem spGo_valid : ∀ (l : List ((Int × Int) × (Int × Int))) (s : Int × Int), isRat s = true → (spGo s l).2 = 0 → isRat (spGo s l).1 = true
  | [], s, hs, _ => hs
  | x :: l, s, hs, h => by
    rw [spGo] at h ⊢
    split
    · rename_i h1; rw [if_pos h1] at h; exact absurd h h1
    · rename_i h1
      rw [if_neg h1] at h
      split
      · rename_i h2; rw [if_pos h2] at h; exact absurd h h2
      · rename_i h2; rw [if_neg h2] at h; exact spGo_valid l _ (addR_valid (by omega)) h
theorem gainsGo_valid (q : List (Int × Int)) : ∀ (m : List (List Int)), ∀ x ∈ (gainsGo q m).1, isRat x = true
  | [], x, hx => by simp [gainsGo] at hx
  | r :: m, x, hx => by
    rw [gainsGo] at hx
    split at hx
    · simp at hx
    · rename_i h1
      split at hx
      · simp at hx
      · rcases List.mem_cons.1 hx with rfl | hx
        · exact spGo_valid _ _ (by decide) (by have h1 : (spR q (ones r)).2 = 0 := by simpa using h1
                                               exact h1)
        · exact gainsGo_valid q m x hx

/-- The first greatest and the first least of ratios; the index of the first greatest one. -/
def maxR (l : List (Int × Int)) : Int × Int := l.tail.foldl (fun m x => if 0 < cmpR x m then x else m) (l.headD (0, 0))
def minR (l : List (Int × Int)) : Int × Int := l.tail.foldl (fun m x => if cmpR x m < 0 then x else m) (l.headD (0, 0))
theorem maxR_snoc {l : List (Int × Int)} (h : l ≠ []) (x : Int × Int) : maxR (l ++ [x]) = if 0 < cmpR x (maxR l) then x else maxR l := by
  cases l with
  | nil => exact absurd rfl h
  | cons a l => simp [maxR, List.foldl_append]
theorem minR_snoc {l : List (Int × Int)} (h : l ≠ []) (x : Int × Int) : minR (l ++ [x]) = if cmpR x (minR l) < 0 then x else minR l := by
  cases l with
  | nil => exact absurd rfl h
  | cons a l => simp [minR, List.foldl_append]
theorem maxR_spec : ∀ (l : List (Int × Int)) (a : Int × Int), (∀ x ∈ a :: l, isRat x = true) → (∀ x ∈ a :: l, leR x (maxR (a :: l))) ∧ maxR (a :: l) ∈ a :: l := by
  intro l a
  show _ → (∀ x ∈ a :: l, leR x (l.foldl (fun m x => if 0 < cmpR x m then x else m) a)) ∧ (l.foldl (fun m x => if 0 < cmpR x m then x else m) a) ∈ a :: l
  induction l generalizing a with
  | nil => intro _; exact ⟨fun x hx => by simp at hx; rw [hx]; exact leR_refl _, by simp⟩
  | cons b l ih =>
    intro hv
    rw [List.foldl_cons]
    have den : ∀ x ∈ a :: b :: l, 1 ≤ x.2 := fun x hx => (isRat_spec (hv x hx)).2.2.1
    by_cases h : 0 < cmpR b a
    · rw [if_pos h]
      obtain ⟨h1, h2⟩ := ih b fun x hx => hv x (List.mem_cons_of_mem _ hx)
      have hab : leR a b := (leR_total a b).resolve_right (fun h' => (cmpR_gt.1 h) h')
      refine ⟨fun x hx => ?_, List.mem_cons_of_mem _ h2⟩
      rcases List.mem_cons.1 hx with rfl | hx
      · exact leR_trans (den _ (by simp)) (den b (by simp)) (den _ (List.mem_cons_of_mem _ h2)) hab (h1 b (by simp))
      · exact h1 x hx
    · rw [if_neg h]
      obtain ⟨h1, h2⟩ := ih a fun x hx => hv x (by rcases List.mem_cons.1 hx with rfl | hx <;> simp [*])
      have hba : leR b a := cmpR_le.1 (by omega)
      have hmem : l.foldl (fun m x => if 0 < cmpR x m then x else m) a ∈ a :: b :: l := by
        rcases List.mem_cons.1 h2 with h3 | h3
        · rw [h3]; simp
        · exact List.mem_cons_of_mem _ (List.mem_cons_of_mem _ h3)
      refine ⟨fun x hx => ?_, hmem⟩
      rcases List.mem_cons.1 hx with rfl | hx
      · exact h1 _ (by simp)
      · rcases List.mem_cons.1 hx with rfl | hx
        · exact leR_trans (den _ (by simp)) (den a (by simp)) (den _ hmem) hba (h1 a (by simp))
        · exact h1 x (by simp [hx])
theorem minR_spec : ∀ (l : List (Int × Int)) (a : Int × Int), (∀ x ∈ a :: l, isRat x = true) → (∀ x ∈ a :: l, leR (minR (a :: l)) x) ∧ minR (a :: l) ∈ a :: l := by
  intro l a
  show _ → (∀ x ∈ a :: l, leR (l.foldl (fun m x => if cmpR x m < 0 then x else m) a) x) ∧ (l.foldl (fun m x => if cmpR x m < 0 then x else m) a) ∈ a :: l
  induction l generalizing a with
  | nil => intro _; exact ⟨fun x hx => by simp at hx; rw [hx]; exact leR_refl _, by simp⟩
  | cons b l ih =>
    intro hv
    rw [List.foldl_cons]
    have den : ∀ x ∈ a :: b :: l, 1 ≤ x.2 := fun x hx => (isRat_spec (hv x hx)).2.2.1
    by_cases h : cmpR b a < 0
    · rw [if_pos h]
      obtain ⟨h1, h2⟩ := ih b fun x hx => hv x (List.mem_cons_of_mem _ hx)
      have hab : leR b a := (leR_total b a).resolve_right (fun h' => (cmpR_lt.1 h) h')
      refine ⟨fun x hx => ?_, List.mem_cons_of_mem _ h2⟩
      rcases List.mem_cons.1 hx with rfl | hx
      · exact leR_trans (den _ (List.mem_cons_of_mem _ h2)) (den b (by simp)) (den _ (by simp)) (h1 b (by simp)) hab
      · exact h1 x hx
    · rw [if_neg h]
      obtain ⟨h1, h2⟩ := ih a fun x hx => hv x (by rcases List.mem_cons.1 hx with rfl | hx <;> simp [*])
      have hba : leR a b := cmpR_ge.1 (by omega)
      have hmem : l.foldl (fun m x => if cmpR x m < 0 then x else m) a ∈ a :: b :: l := by
        rcases List.mem_cons.1 h2 with h3 | h3
        · rw [h3]; simp
        · exact List.mem_cons_of_mem _ (List.mem_cons_of_mem _ h3)
      refine ⟨fun x hx => ?_, hmem⟩
      rcases List.mem_cons.1 hx with rfl | hx
      · exact h1 _ (by simp)
      · rcases List.mem_cons.1 hx with rfl | hx
        · exact leR_trans (den _ hmem) (den a (by simp)) (den _ (by simp)) (h1 a (by simp)) hba
        · exact h1 x (by simp [hx])
end Go.Ab

/- Contracts: comparison of ratios; the least and the greatest of ratios. -/
set_option linter.unusedSimpArgs false
set_option linter.unusedVariables false
namespace Go.Ab
open Go.Proofs

theorem cmp_isNaN_ok (x : Int) : Pure Try.prog 123 [.i x] (.b false) := by
  refine fun_cmp_isNaN_int64_ (by simp) ?_
  simp -implicitDefEqProofs only [go_sem, evR, ints, rows, rat, rats, c_cmp_isNaN_int64_]
theorem cmp_Compare_ok (x y : Int) : Pure Try.prog 115 [.i x, .i y] (.i (if x < y then -1 else if y < x then 1 else 0)) := by
  refine fun_cmp_Compare_int64_ (by simp) ?_
  simp -implicitDefEqProofs only [go_sem, evR, ints, rows, rat, rats, c_cmp_Compare_int64_]
  refine CallW.pure (cmp_isNaN_ok x) [] rfl Try.call123 ?_ (by first | trivial | simp [T.noSh, T.noShL, rat]) rfl ?_
  · simp -implicitDefEqProofs only [agR, Nat.reduceLeDiff, Nat.reduceSub, vaR, go_sem, ints, rows, rat, rats, ratsO, rtR, intsO, rowsO]
  simp -implicitDefEqProofs only [go_sem, evR, ints, rows, rat, rats]
  refine CallW.pure (cmp_isNaN_ok y) [] rfl Try.call123 ?_ (by first | trivial | simp [T.noSh, T.noShL, rat]) rfl ?_
  · simp -implicitDefEqProofs only [agR, Nat.reduceLeDiff, Nat.reduceSub, vaR, go_sem, ints, rows, rat, rats, ratsO, rtR, intsO, rowsO]
  simp -implicitDefEqProofs only [go_sem, evR, ints, rows, rat, rats]
  refine ⟨fun h => by rw [if_pos h], fun h => ⟨fun h' => by rw [if_neg h, if_pos (by omega)], fun h' => by rw [if_neg h, if_neg (by omega)]⟩⟩
theorem impl_compareRatios_ok (a b : Int × Int) (ha : isRat a = true) (hb : isRat b = true) : Pure Try.prog 90 [rat a, rat b] (.i (cmpR a b)) := by
  refine fun_impl_compareRatios (by simp) ?_
  simp -implicitDefEqProofs only [go_sem, evR, ints, rows, rat, rats, c_impl_compareRatios]
  obtain ⟨a1, a2, a3, a4⟩ := isRat_spec ha
  obtain ⟨b1, b2, b3, b4⟩ := isRat_spec hb
  have p1 := mul_bound a1 a2 b3 b4
  have p2 := mul_bound b1 b2 a3 a4
  rw [wrap64 (n := a.1 * b.2) (by omega) (by omega), wrap64 (n := b.1 * a.2) (by omega) (by omega)]
  refine CallW.pure (cmp_Compare_ok (a.1 * b.2) (b.1 * a.2)) [] rfl Try.call115 ?_ (by first | trivial | simp [T.noSh, T.noShL, rat]) rfl ?_
  · simp -implicitDefEqProofs only [agR, Nat.reduceLeDiff, Nat.reduceSub, vaR, go_sem, ints, rows, rat, rats, ratsO, rtR, intsO, rowsO]
  simp -implicitDefEqProofs only [go_sem, evR, ints, rows, rat, rats]
  rfl
theorem spec_l01Compare_ok (a b : Int × Int) (ha : isRat a = true) (hb : isRat b = true) : Pure Try.prog 97 [rat a, rat b] (.i (cmpR a b)) := by
  refine fun_spec_l01Compare (by simp) ?_
  simp -implicitDefEqProofs only [go_sem, evR, ints, rows, rat, rats, c_spec_l01Compare]
  obtain ⟨a1, a2, a3, a4⟩ := isRat_spec ha
  obtain ⟨b1, b2, b3, b4⟩ := isRat_spec hb
  have p1 := mul_bound a1 a2 b3 b4
  have p2 := mul_bound b1 b2 a3 a4
  rw [wrap64 (n := a.1 * b.2) (by omega) (by omega), wrap64 (n := b.1 * a.2) (by omega) (by omega)]
  unfold cmpR
  refine ⟨fun h => by rw [if_pos h], fun h => ⟨fun h' => by rw [if_neg h, if_pos (by omega)], fun h' => by rw [if_neg h, if_neg (by omega)]⟩⟩
end Go.Ab

/- Contracts: the least and the greatest of ratios. -/
set_option linter.unusedSimpArgs false
set_option linter.unusedVariables false
namespace Go.Ab
open Go.Proofs

theorem mm_mem {f : (Int × Int) → (Int × Int) → Prop} [∀ a b, Decidable (f a b)] : ∀ (l : List (Int × Int)) (a : Int × Int), l.foldl (fun m x => if f m x then x else m) a ∈ a :: l := by
  intro l
  induction l with
  | nil => intro a; simp
  | cons b l ih =>
    intro a
    rw [List.foldl_cons]
    have := ih (if f a b then b else a)
    rcases List.mem_cons.1 this with h | h
    · rw [h]; split <;> simp
    · simp [h]
theorem minR_mem {l : List (Int × Int)} (h : l ≠ []) : minR l ∈ l := by
  cases l with
  | nil => exact absurd rfl h
  | cons a l => exact mm_mem (f := fun m x => cmpR x m < 0) l a
theorem maxR_mem {l : List (Int × Int)} (h : l ≠ []) : maxR l ∈ l := by
  cases l with
  | nil => exact absurd rfl h
  | cons a l => exact mm_mem (f := fun m x => 0 < cmpR x m) l a
theorem take_ne {l : List (Int × Int)} {i : Nat} (h : 1 ≤ i) (h' : i ≤ l.length) : l.take i ≠ [] := by
  intro e
  have := congrArg List.length e
  simp at this
  rcases this with h | h
  · omega
  · rw [h] at h'; simp at h'; omega
theorem take_mem {l : List (Int × Int)} {i : Nat} {x : Int × Int} (h : x ∈ l.take i) : x ∈ l := List.mem_of_mem_take h

theorem ratC_take2 {l : List (Int × Int)} {x : Int × Int} (h : l[0]? = some x) : (ratC l).take 2 = [T.i x.1, T.i x.2] := by
  have := ratC_at h
  simpa using this
theorem slices_MinFunc_ok (l : List (Int × Int)) (hv : ∀ x ∈ l, isRat x = true) (h0 : 1 ≤ l.length) (h1 : l.length ≤ 1000000000) : Pure Try.prog 92 [rats l, .fn 90 []] (rat (minR l)) := by
  obtain ⟨x0, hx0⟩ : ∃ x, l[0]? = some x := ⟨_, List.getElem?_eq_getElem (by omega)⟩
  refine fun_slices_MinFunc___impl_Ratio_impl_Ratio_ (by simp) ?_
  simp -implicitDefEqProofs only [go_sem, evR, ints, rows, rat, rats, c_slices_MinFunc___impl_Ratio_impl_Ratio_]
  refine ⟨fun h => by omega, fun _ => ⟨by rw [ratC_length]; omega, by rw [ratC_length]; omega, by rw [ratC_take2 hx0]; rfl, ?_⟩⟩
  rw [ratC_take2 hx0]
  simp -implicitDefEqProofs only [go_sem, evR, ints, rows, rat, rats]
  have t1 : l.take 1 = [x0] := by
    cases l with
    | nil => simp at h0
    | cons a l => simp at hx0; simp [hx0]
  refine SemC.loopR (σ := Nat) (fun i => St.of [(0, .t (rats l)), (1, .t (.fn 90 [])), (4, .own 4), (5, .own 5), (6, .t (.i i))] [(4, .box [.i 0, .i 0]), (5, .box [.i (minR (l.take i)).1, .i (minR (l.take i)).2])]) (fun i => 1 ≤ i ∧ i ≤ l.length) (fun i => l.length - i) 1 (Weak.of _ _ [some 4, some 5] (by simp) (by simp) ?_ ?_) ⟨by omega, by omega⟩ fun i hI R hn hr he => ?_
  · simp -implicitDefEqProofs only [ints, rows, Nat.reduceBEq, wkR, Nat.reduceEqDiff, ↓reduceIte, wrR, rats]
  · exact ⟨⟨_, rfl, .refl _⟩, rfl, ⟨_, rfl, by rw [t1]; exact .refl _⟩, rfl, trivial⟩
  · simp -implicitDefEqProofs only [go_sem, evR, ints, rows, rat, rats]
    refine ⟨fun h => ?_, fun h => he _ _ ?_⟩
    · have hil : i < l.length := by omega
      obtain ⟨x, hx⟩ : ∃ x, l[i]? = some x := ⟨_, List.getElem?_eq_getElem hil⟩
      have hm := minR_mem (take_ne hI.1 hI.2)
      have hs := take_snoc hx
      have hss := minR_snoc (take_ne hI.1 hI.2) x
      rw [← hs] at hss
      have hxv := hv x (List.mem_of_getElem? hx)
      generalize hmm : minR (l.take i) = mm at hm hss
      have hmv := hv mm (take_mem hm)
      refine ⟨by omega, by rw [ratC_length]; omega, by rw [ratC_length]; omega, ?_⟩
      rw [ratC_at hx]
      refine CallV.pure (impl_compareRatios_ok x mm hxv hmv) [] rfl Try.call90 (fun e R' hR => ?_) (by first | trivial | simp [T.noSh, T.noShL, rat]) (fun _ => rfl) ?_
      · simp -implicitDefEqProofs only [agR, Nat.reduceLeDiff, Nat.reduceSub, vaR, go_sem, ints, rows, rat, rats, ratsO, rtR, intsO, rowsO]
      simp -implicitDefEqProofs only [go_sem, evR, ints, rows, rat, rats]
      refine ⟨fun hc => ?_, fun hc => ?_⟩
      · rw [if_pos (by omega)] at hss
        refine ⟨by omega, by rw [ratC_length]; omega, by rw [ratC_length]; omega, by rw [ratC_at hx]; rfl, ?_⟩
        rw [ratC_at hx]
        simp -implicitDefEqProofs only [go_sem, evR, ints, rows, rat, rats]
        refine hn _ (i + 1) (Weak.of _ _ [some 4, some 5] (by simp) (by simp) ?_ ?_) ⟨by omega, by omega⟩ (by omega)
        · simp -implicitDefEqProofs only [ints, rows, Nat.reduceBEq, wkR, Nat.reduceEqDiff, ↓reduceIte, wrR, rats, next64 hil (by omega)]
        · exact ⟨⟨_, rfl, .refl _⟩, rfl, ⟨_, rfl, by rw [hss]; exact .refl _⟩, rfl, trivial⟩
      · rw [if_neg (by omega)] at hss
        refine hn _ (i + 1) (Weak.of _ _ [some 4, some 5] (by simp) (by simp) ?_ ?_) ⟨by omega, by omega⟩ (by omega)
        · simp -implicitDefEqProofs only [ints, rows, Nat.reduceBEq, wkR, Nat.reduceEqDiff, ↓reduceIte, wrR, rats, next64 hil (by omega)]
        · exact ⟨⟨_, rfl, .refl _⟩, rfl, ⟨_, rfl, by rw [hss]; exact .refl _⟩, rfl, trivial⟩
    · simp -implicitDefEqProofs only [go_sem, evR, ints, rows, rat, rats]
      have e : l.take i = l := List.take_of_length_le (by omega)
      rw [e]
theorem slices_MaxFunc_ok (l : List (Int × Int)) (hv : ∀ x ∈ l, isRat x = true) (h0 : 1 ≤ l.length) (h1 : l.length ≤ 1000000000) : Pure Try.prog 91 [rats l, .fn 90 []] (rat (maxR l)) := by
  obtain ⟨x0, hx0⟩ : ∃ x, l[0]? = some x := ⟨_, List.getElem?_eq_getElem (by omega)⟩
  refine fun_slices_MaxFunc___impl_Ratio_impl_Ratio_ (by simp) ?_
  simp -implicitDefEqProofs only [go_sem, evR, ints, rows, rat, rats, c_slices_MaxFunc___impl_Ratio_impl_Ratio_]
  refine ⟨fun h => by omega, fun _ => ⟨by rw [ratC_length]; omega, by rw [ratC_length]; omega, by rw [ratC_take2 hx0]; rfl, ?_⟩⟩
  rw [ratC_take2 hx0]
  simp -implicitDefEqProofs only [go_sem, evR, ints, rows, rat, rats]
  have t1 : l.take 1 = [x0] := by
    cases l with
    | nil => simp at h0
    | cons a l => simp at hx0; simp [hx0]
  refine SemC.loopR (σ := Nat) (fun i => St.of [(0, .t (rats l)), (1, .t (.fn 90 [])), (4, .own 4), (5, .own 5), (6, .t (.i i))] [(4, .box [.i 0, .i 0]), (5, .box [.i (maxR (l.take i)).1, .i (maxR (l.take i)).2])]) (fun i => 1 ≤ i ∧ i ≤ l.length) (fun i => l.length - i) 1 (Weak.of _ _ [some 4, some 5] (by simp) (by simp) ?_ ?_) ⟨by omega, by omega⟩ fun i hI R hn hr he => ?_
  · simp -implicitDefEqProofs only [ints, rows, Nat.reduceBEq, wkR, Nat.reduceEqDiff, ↓reduceIte, wrR, rats]
  · exact ⟨⟨_, rfl, .refl _⟩, rfl, ⟨_, rfl, by rw [t1]; exact .refl _⟩, rfl, trivial⟩
  · simp -implicitDefEqProofs only [go_sem, evR, ints, rows, rat, rats]
    refine ⟨fun h => ?_, fun h => he _ _ ?_⟩
    · have hil : i < l.length := by omega
      obtain ⟨x, hx⟩ : ∃ x, l[i]? = some x := ⟨_, List.getElem?_eq_getElem hil⟩
      have hm := maxR_mem (take_ne hI.1 hI.2)
      have hs := take_snoc hx
      have hss := maxR_snoc (take_ne hI.1 hI.2) x
      rw [← hs] at hss
      have hxv := hv x (List.mem_of_getElem? hx)
      generalize hmm : maxR (l.take i) = mm at hm hss
      have hmv := hv mm (take_mem hm)
      refine ⟨by omega, by rw [ratC_length]; omega, by rw [ratC_length]; omega, ?_⟩
      rw [ratC_at hx]
      refine CallV.pure (impl_compareRatios_ok x mm hxv hmv) [] rfl Try.call90 (fun e R' hR => ?_) (by first | trivial | simp [T.noSh, T.noShL, rat]) (fun _ => rfl) ?_
      · simp -implicitDefEqProofs only [agR, Nat.reduceLeDiff, Nat.reduceSub, vaR, go_sem, ints, rows, rat, rats, ratsO, rtR, intsO, rowsO]
      simp -implicitDefEqProofs only [go_sem, evR, ints, rows, rat, rats]
      refine ⟨fun hc => ?_, fun hc => ?_⟩
      · rw [if_pos (by omega)] at hss
        refine ⟨by omega, by rw [ratC_length]; omega, by rw [ratC_length]; omega, by rw [ratC_at hx]; rfl, ?_⟩
        rw [ratC_at hx]
        simp -implicitDefEqProofs only [go_sem, evR, ints, rows, rat, rats]
        refine hn _ (i + 1) (Weak.of _ _ [some 4, some 5] (by simp) (by simp) ?_ ?_) ⟨by omega, by omega⟩ (by omega)
        · simp -implicitDefEqProofs only [ints, rows, Nat.reduceBEq, wkR, Nat.reduceEqDiff, ↓reduceIte, wrR, rats, next64 hil (by omega)]
        · exact ⟨⟨_, rfl, .refl _⟩, rfl, ⟨_, rfl, by rw [hss]; exact .refl _⟩, rfl, trivial⟩
      · rw [if_neg (by omega)] at hss
        refine hn _ (i + 1) (Weak.of _ _ [some 4, some 5] (by simp) (by simp) ?_ ?_) ⟨by omega, by omega⟩ (by omega)
        · simp -implicitDefEqProofs only [ints, rows, Nat.reduceBEq, wkR, Nat.reduceEqDiff, ↓reduceIte, wrR, rats, next64 hil (by omega)]
        · exact ⟨⟨_, rfl, .refl _⟩, rfl, ⟨_, rfl, by rw [hss]; exact .refl _⟩, rfl, trivial⟩
    · simp -implicitDefEqProofs only [go_sem, evR, ints, rows, rat, rats]
      have e : l.take i = l := List.take_of_length_le (by omega)
      rw [e]
end Go.Ab

/- Ratios as rational numbers: sums, mixes, gains and values, exactly. -/
set_option linter.unusedSimpArgs false
set_option linter.unusedVariables false
namespace Go.Ab

/-- The value of a ratio. -/
def rv (a : Int × Int) : Rat := (a.1 : Rat) / (a.2 : Rat)
theorem cast_pos {d : Int} (h : 0 < d) : (0 : Rat) < (d : Rat) := by exact_mod_cast h
theorem rv_redR {n d : Int} (hd : 0 < d) (h : (redR n d).2 = 0) : rv (redR n d).1 = (n : Rat) / (d : Rat) := by
  unfold redR at h ⊢
  split
  · rename_i h1
    obtain ⟨a, ha⟩ := gcdI_dvd_left n d
    obtain ⟨b, hb⟩ := gcdI_dvd_right n d
    have hg := gcdI_pos n d hd
    have hg' : (gcdI n d : Int) ≠ 0 := by omega
    have e1 : n.tdiv (gcdI n d) = a := by
      generalize (gcdI n d : Int) = g at ha hg'
      rw [ha]; exact Int.mul_tdiv_cancel_left _ hg'
    have e2 : d.tdiv (gcdI n d) = b := by
      generalize (gcdI n d : Int) = g at hb hg'
      rw [hb]; exact Int.mul_tdiv_cancel_left _ hg'
    simp only [rv, e1, e2]
    have hb0 : (b : Rat) ≠ 0 := by
      intro h0
      have : b = 0 := by exact_mod_cast h0
      rw [this, Int.mul_zero] at hb; omega
    have hgr : ((gcdI n d : Int) : Rat) ≠ 0 := by
      intro h0
      exact hg' (by exact_mod_cast h0)
    have e3 : (n : Rat) = ((gcdI n d : Int) : Rat) * (a : Rat) := by rw [← Rat.intCast_mul, ← ha]
    have e4 : (d : Rat) = ((gcdI n d : Int) : Rat) * (b : Rat) := by rw [← Rat.intCast_mul, ← hb]
    rw [e3, e4]
    generalize ((gcdI n d : Int) : Rat) = g at *
    generalize (a : Rat) = a' at *
    generalize (b : Rat) = b' at *
    clear e1 e2 e3 e4 ha hb h1 h
    grind
  · rename_i h1; rw [if_neg h1] at h; simp at h
theorem den_ne {a : Int × Int} (h : isRat a = true) : (a.2 : Rat) ≠ 0 := by
  have := (isRat_spec h).2.2.1
  have h2 := cast_pos (d := a.2) (by omega)
  grind
theorem addR_both {a b : Int × Int} (h : (addR a b).2 = 0) : isRat a = true ∧ isRat b = true := by
  unfold addR at h
  split at h
  · rename_i h1; simpa using h1
  · simp at h
theorem mulR_both {a b : Int × Int} (h : (mulR a b).2 = 0) : isRat a = true ∧ isRat b = true := by
  unfold mulR at h
  split at h
  · rename_i h1; simpa using h1
  · simp at h
theorem rv_addR {a b : Int × Int} (h : (addR a b).2 = 0) : rv (addR a b).1 = rv a + rv b := by
  obtain ⟨h1, h2⟩ := addR_both h
  have d1 := (isRat_spec h1).2.2.1
  have d2 := (isRat_spec h2).2.2.1
  have n1 := den_ne h1
  have n2 := den_ne h2
  unfold addR at h ⊢
  rw [if_pos (by simp [h1, h2])] at h ⊢
  rw [rv_redR (Int.mul_pos (by omega) (by omega)) h]
  simp only [rv, Rat.intCast_add, Rat.intCast_mul]
  generalize (a.1 : Rat) = x at *
  generalize (a.2 : Rat) = y at *
  generalize (b.1 : Rat) = z at *
  generalize (b.2 : Rat) = w at *
  clear h h1 h2 d1 d2
  grind
theorem rv_mulR {a b : Int × Int} (h : (mulR a b).2 = 0) : rv (mulR a b).1 = rv a * rv b := by
  obtain ⟨h1, h2⟩ := mulR_both h
  have d1 := (isRat_spec h1).2.2.1
  have d2 := (isRat_spec h2).2.2.1
  have n1 := den_ne h1
  have n2 := den_ne h2
  unfold mulR at h ⊢
  rw [if_pos (by simp [h1, h2])] at h ⊢
  rw [rv_redR (Int.mul_pos (by omega) (by omega)) h]
  simp only [rv, Rat.intCast_mul]
  generalize (a.1 : Rat) = x at *
  generalize (a.2 : Rat) = y at *
  generalize (b.1 : Rat) = z at *
  generalize (b.2 : Rat) = w at *
  clear h h1 h2 d1 d2
  grind
/-- The order of ratios is the order of their values. -/
theorem leR_rv {a b : Int × Int} (ha : 1 ≤ a.2) (hb : 1 ≤ b.2) : leR a b ↔ rv a ≤ rv b := by
  have p1 := cast_pos (d := a.2) (by omega)
  have p2 := cast_pos (d := b.2) (by omega)
  have e : leR a b ↔ (a.1 : Rat) * (b.2 : Rat) ≤ (b.1 : Rat) * (a.2 : Rat) := by
    unfold leR
    rw [← Rat.intCast_mul, ← Rat.intCast_mul, Rat.intCast_le_intCast]
  rw [e]
  have i1 : rv a * (a.2 : Rat) = a.1 := by unfold rv; exact Rat.div_mul_cancel (by grind)
  have i2 : rv b * (b.2 : Rat) = b.1 := by unfold rv; exact Rat.div_mul_cancel (by grind)
  rw [← i1, ← i2]
  generalize rv a = x at *
  generalize rv b = y at *
  generalize (a.2 : Rat) = u at *
  generalize (b.2 : Rat) = w at *
  have huw : 0 < u * w := Rat.mul_pos p1 p2
  constructor
  · intro h
    have h' : (u * w) * x ≤ (u * w) * y := by grind
    exact Rat.le_of_mul_le_mul_left h' huw
  · intro h
    have h' := Rat.mul_le_mul_of_nonneg_left h (Rat.le_of_lt huw)
    grind
/-- Ratios in lowest terms of one value are one ratio. -/
theorem rv_inj {a b : Int × Int} (ha : isRat a = true) (hb : isRat b = true) (h : rv a = rv b) : a = b := by
  have d1 := (isRat_spec ha).2.2.1
  have d2 := (isRat_spec hb).2.2.1
  have h1 := (leR_rv d1 d2).2 (by rw [h]; exact Rat.le_refl)
  have h2 := (leR_rv d2 d1).2 (by rw [h]; exact Rat.le_refl)
  unfold leR at h1 h2
  have e : a.1 * b.2 = b.1 * a.2 := by omega
  simp only [isRat, Bool.and_eq_true, decide_eq_true_eq] at ha hb
  have g1 : Nat.Coprime a.1.natAbs a.2.natAbs := ha.2
  have g2 : Nat.Coprime b.1.natAbs b.2.natAbs := hb.2
  have e' : a.1.natAbs * b.2.natAbs = b.1.natAbs * a.2.natAbs := by rw [← Int.natAbs_mul, ← Int.natAbs_mul, e]
  have k1 : a.2.natAbs ∣ b.2.natAbs := g1.symm.dvd_of_dvd_mul_left ⟨b.1.natAbs, by rw [e', Nat.mul_comm]⟩
  have k2 : b.2.natAbs ∣ a.2.natAbs := g2.symm.dvd_of_dvd_mul_left ⟨a.1.natAbs, by rw [← e', Nat.mul_comm]⟩
  have k3 := Nat.dvd_antisymm k1 k2
  have k4 : a.2 = b.2 := by omega
  rw [k4] at e
  have k5 : a.1 = b.1 := Int.eq_of_mul_eq_mul_right (by omega) e
  exact Prod.ext k5 k4

/-! Sums of rational numbers. -/
def sumF (f : Nat → Rat) : Nat → Rat
  | 0 => 0
  | n + 1 => sumF f n + f n
theorem sumF_congr {f g : Nat → Rat} : ∀ {n : Nat}, (∀ i, i < n → f i = g i) → sumF f n = sumF g n
  | 0, _ => rfl
  | n + 1, h => by rw [sumF, sumF, sumF_congr fun i hi => h i (by omega), h n (by omega)]
theorem sumF_add (f g : Nat → Rat) : ∀ n, sumF (fun i => f i + g i) n = sumF f n + sumF g n
  | 0 => by simp only [sumF]; grind
  | n + 1 => by rw [sumF, sumF, sumF, sumF_add f g n]; grind
theorem sumF_mul (c : Rat) (f : Nat → Rat) : ∀ n, sumF (fun i => c * f i) n = c * sumF f n
  | 0 => by simp [sumF]
  | n + 1 => by rw [sumF, sumF, sumF_mul c f n]; grind
theorem sumF_zero : ∀ n, sumF (fun _ => 0) n = 0
  | 0 => rfl
  | n + 1 => by rw [sumF, sumF_zero n]; grind
theorem sumF_le {f g : Nat → Rat} : ∀ {n : Nat}, (∀ i, i < n → f i ≤ g i) → sumF f n ≤ sumF g n
  | 0, _ => Rat.le_refl
  | n + 1, h => by
    have h1 := sumF_le (n := n) fun i hi => h i (by omega)
    have h2 := h n (by omega)
    rw [sumF, sumF]; grind
theorem sumF_front (f : Nat → Rat) : ∀ n, sumF f (n + 1) = f 0 + sumF (fun i => f (i + 1)) n
  | 0 => by simp only [sumF]; grind
  | n + 1 => by rw [sumF, sumF_front f n, sumF]; grind
/-- A mean is at most the bound of all. -/
theorem mean_le {p g : Nat → Rat} {n : Nat} {b : Rat} (hp : ∀ i, i < n → 0 ≤ p i) (hs : sumF p n = 1) (hg : ∀ i, i < n → g i ≤ b) : sumF (fun i => p i * g i) n ≤ b := by
  have h1 := sumF_le (n := n) (f := fun i => p i * g i) (g := fun i => b * p i) fun i hi => by
    have := Rat.mul_le_mul_of_nonneg_left (hg i hi) (hp i hi)
    grind
  rw [sumF_mul, hs] at h1
  grind
theorem le_mean {p g : Nat → Rat} {n : Nat} {b : Rat} (hp : ∀ i, i < n → 0 ≤ p i) (hs : sumF p n = 1) (hg : ∀ i, i < n → b ≤ g i) : b ≤ sumF (fun i => p i * g i) n := by
  have h1 := sumF_le (n := n) (f := fun i => b * p i) (g := fun i => p i * g i) fun i hi => by
    have := Rat.mul_le_mul_of_nonneg_left (hg i hi) (hp i hi)
    grind
  rw [sumF_mul, hs] at h1
  grind

/-- The values of a list of ratios; the entries of a matrix. -/
def rvL (l : List (Int × Int)) (i : Nat) : Rat := rv (l.getD i (0, 1))
def entQ (m : List (List Int)) (i j : Nat) : Rat := (((m.getD i []).getD j 0 : Int) : Rat)
theorem rvL_cons (x : Int × Int) (l : List (Int × Int)) (i : Nat) : rvL (x :: l) (i + 1) = rvL l i := rfl
theorem rv_one (x : Int) : rv (x, 1) = (x : Rat) := by
  have : (x : Rat) / 1 = x := by grind
  exact this
theorem rv_zero : rv (0, 1) = 0 := rv_one 0
theorem mixGo_spec : ∀ (l : List (Int × Int)) (s : Int × Int), mixGo s l = true → (∀ x ∈ l, isRat x = true ∧ 0 ≤ x.1) ∧ rv s + sumF (rvL l) l.length = 1
  | [], s, h => by
    simp only [mixGo, decide_eq_true_eq] at h
    subst h
    refine ⟨by simp, ?_⟩
    simp only [List.length_nil, sumF, rv_one]
    have : ((1 : Int) : Rat) = 1 := rfl
    rw [this]; grind
  | x :: l, s, h => by
    simp only [mixGo, Bool.and_eq_true, decide_eq_true_eq] at h
    obtain ⟨⟨⟨h1, h2⟩, h3⟩, h4⟩ := h
    obtain ⟨h5, h6⟩ := mixGo_spec l _ h4
    rw [rv_addR h3] at h6
    refine ⟨fun y hy => ?_, ?_⟩
    · rcases List.mem_cons.1 hy with rfl | hy
      · exact ⟨h1, h2⟩
      · exact h5 y hy
    · have e0 : rvL (x :: l) 0 = rv x := rfl
      rw [List.length_cons, sumF_front, e0]
      simp only [rvL_cons]
      have e1 : sumF (fun i => rvL l i) l.length = sumF (rvL l) l.length := rfl
      rw [e1]; grind
theorem rv_nonneg {x : Int × Int} (h : isRat x = true) (h' : 0 ≤ x.1) : 0 ≤ rv x := by
  have d := cast_pos (d := x.2) (by have := (isRat_spec h).2.2.1; omega)
  have n : (0 : Rat) ≤ (x.1 : Rat) := by exact_mod_cast h'
  unfold rv
  rw [Rat.div_def]
  exact Rat.mul_nonneg n (Rat.le_of_lt (Rat.inv_pos.2 d))
theorem mix_spec {p : List (Int × Int)} {n : Nat} (h : isMixB p n = true) : p.length = n ∧ (∀ x ∈ p, isRat x = true) ∧ (∀ i, i < n → 0 ≤ rvL p i) ∧ sumF (rvL p) n = 1 := by
  simp only [isMixB, Bool.and_eq_true, decide_eq_true_eq] at h
  obtain ⟨⟨_, h1⟩, h2⟩ := h
  obtain ⟨h3, h4⟩ := mixGo_spec p _ h2
  have hl : p.length = n := by omega
  refine ⟨hl, fun x hx => (h3 x hx).1, fun i hi => ?_, ?_⟩
  · have hm : p.getD i (0, 1) ∈ p := by rw [List.getD_eq_getElem?_getD, List.getElem?_eq_getElem (by omega)]; exact List.getElem_mem _
    exact rv_nonneg (h3 _ hm).1 (h3 _ hm).2
  · rw [rv_zero, hl] at h4; grind
theorem spGo_rv : ∀ (a b : List (Int × Int)) (s : Int × Int), a.length ≤ b.length → (spGo s (a.zip b)).2 = 0 → rv (spGo s (a.zip b)).1 = rv s + sumF (fun i => rvL a i * rvL b i) a.length
  | [], b, s, _, _ => by
    simp only [List.zip_nil_left, spGo, List.length_nil, sumF]; grind
  | x :: a, [], s, h, _ => by simp at h
  | x :: a, y :: b, s, hl, h => by
    rw [List.zip_cons_cons, spGo] at h ⊢
    split
    · rename_i h1; rw [if_pos h1] at h; exact absurd h h1
    · rename_i h1
      rw [if_neg h1] at h
      split
      · rename_i h2; rw [if_pos h2] at h; exact absurd h h2
      · rename_i h2
        rw [if_neg h2] at h
        have h1' : (mulR x y).2 = 0 := by simpa using h1
        have h2' : (addR s (mulR x y).1).2 = 0 := by simpa using h2
        rw [spGo_rv a b _ (by simpa using hl) h, rv_addR h2', rv_mulR h1', List.length_cons, sumF_front]
        have e0 : rvL (x :: a) 0 = rv x := rfl
        have e1 : rvL (y :: b) 0 = rv y := rfl
        simp only [rvL_cons, e0, e1]
        grind
theorem rvL_ones (r : List Int) (i : Nat) : rvL (ones r) i = ((r.getD i 0 : Int) : Rat) := by
  unfold rvL ones
  rw [List.getD_eq_getElem?_getD, List.getD_eq_getElem?_getD, List.getElem?_map]
  cases r[i]? with
  | none => exact rv_one 0
  | some x => exact rv_one x
theorem spR_rv {q : List (Int × Int)} {r : List Int} (hl : q.length ≤ r.length) (h : (spR q (ones r)).2 = 0) : rv (spR q (ones r)).1 = sumF (fun j => rvL q j * ((r.getD j 0 : Int) : Rat)) q.length := by
  unfold spR at h ⊢
  rw [spGo_rv q (ones r) _ (by simpa [ones] using hl) h, rv_zero]
  have e : sumF (fun i => rvL q i * rvL (ones r) i) q.length = sumF (fun j => rvL q j * ((r.getD j 0 : Int) : Rat)) q.length := sumF_congr fun i _ => by rw [rvL_ones]
  rw [e]; grind
/-- The gain of a row, exactly. -/
def gainQ (q : List (Int × Int)) (m : List (List Int)) (i : Nat) : Rat := sumF (fun j => rvL q j * entQ m i j) q.length
theorem gainsGo_rv (q : List (Int × Int)) : ∀ (m : List (List Int)), (∀ r ∈ m, q.length ≤ r.length) → (gainsGo q m).2 = 0 → (gainsGo q m).1.length = m.length ∧ ∀ i, i < m.length → rvL (gainsGo q m).1 i = gainQ q m i
  | [], _, _ => ⟨rfl, fun i hi => by simp at hi⟩
  | r :: m, hr, h => by
    rw [gainsGo] at h ⊢
    split
    · rename_i h1; rw [if_pos h1] at h; exact absurd h h1
    · rename_i h1
      rw [if_neg h1] at h
      split
      · rename_i h2; rw [if_pos h2] at h; exact absurd h h2
      · rename_i h2
        have h1' : (spR q (ones r)).2 = 0 := by simpa using h1
        have h2' : (gainsGo q m).2 = 0 := by simpa using h2
        obtain ⟨h3, h4⟩ := gainsGo_rv q m (fun r' hr' => hr r' (List.mem_cons_of_mem _ hr')) h2'
        refine ⟨by simp [h3], fun i hi => ?_⟩
        cases i with
        | zero => exact spR_rv (hr r (by simp)) h1'
        | succ i => exact h4 i (by simpa using hi)
theorem entQ_tr (m : List (List Int)) {c i j : Nat} (hi : i < m.length) (hj : j < c) : entQ (tr m c) j i = entQ m i j := by
  unfold entQ tr colOf
  rw [List.getD_eq_getElem?_getD (l := List.map _ _), List.getElem?_map, List.getElem?_range hj, Option.map_some, Option.getD_some, List.getD_eq_getElem?_getD, List.getElem?_map, List.getD_eq_getElem?_getD (l := m), List.getElem?_eq_getElem hi, Option.map_some, Option.getD_some, Option.getD_some]
end Go.Ab

/- Solutions of matrices: what they say; the value is unique. -/
set_option linter.unusedSimpArgs false
set_option linter.unusedVariables false
namespace Go.Ab
open Go.Proofs

structure Sol where
  r : List (Int × Int)
  c : List (Int × Int)
  v : Int × Int
deriving DecidableEq
def wid (m : List (List Int)) : Nat := (m.headD []).length
instance (a b : Int × Int) : Decidable (leR a b) := by unfold leR; exact inferInstance
def isSolB (m : List (List Int)) (x : Sol) : Bool :=
  isMixB x.r m.length && isMixB x.c (wid m) && isRat x.v && decide ((gainsGo x.c m).2 = 0) && decide ((gainsGo x.r (tr m (wid m))).2 = 0) &&
    ((gainsGo x.c m).1.all fun g => decide (leR g x.v)) && ((gainsGo x.r (tr m (wid m))).1.all fun g => decide (leR x.v g))
theorem gainsGo_rat (q : List (Int × Int)) : ∀ (m : List (List Int)), ∀ x ∈ (gainsGo q m).1, isRat x = true := gainsGo_valid q
theorem tr_length (m : List (List Int)) (c : Nat) : (tr m c).length = c := by simp [tr]
theorem tr_rows {m : List (List Int)} {c : Nat} : ∀ r ∈ tr m c, r.length = m.length := by
  intro r hr
  obtain ⟨k, _, rfl⟩ := List.mem_map.1 hr
  simp [colOf]
end Go.Ab

/- Contracts: solutions of matrices. -/
set_option linter.unusedSimpArgs false
set_option linter.unusedVariables false
namespace Go.Ab
open Go.Proofs

def solT (x : Sol) : T := .agg [rats x.r, rats x.c, .i x.v.1, .i x.v.2]
def solO (x : Sol) : T := .agg [ratsO x.r, ratsO x.c, .i x.v.1, .i x.v.2]
/-- All ratios at most v: so is the greatest. -/
theorem maxR_le {l : List (Int × Int)} {v : Int × Int} (h0 : 1 ≤ l.length) (hv : ∀ x ∈ l, isRat x = true) (hr : isRat v = true) : decide (cmpR (maxR l) v ≤ 0) = l.all fun g => decide (leR g v) := by
  obtain ⟨a, l', rfl⟩ : ∃ a l', l = a :: l' := by
    cases l with
    | nil => simp at h0
    | cons a l' => exact ⟨a, l', rfl⟩
  obtain ⟨h1, h2⟩ := maxR_spec l' a hv
  have den : ∀ x ∈ a :: l', 1 ≤ x.2 := fun x hx => (isRat_spec (hv x hx)).2.2.1
  have dv := (isRat_spec hr).2.2.1
  rw [Bool.eq_iff_iff]
  simp only [decide_eq_true_eq, List.all_eq_true, cmpR_le]
  exact ⟨fun h x hx => leR_trans (den x hx) (den _ h2) dv (h1 x hx) h, fun h => h _ h2⟩
theorem minR_ge {l : List (Int × Int)} {v : Int × Int} (h0 : 1 ≤ l.length) (hv : ∀ x ∈ l, isRat x = true) (hr : isRat v = true) : decide (0 ≤ cmpR (minR l) v) = l.all fun g => decide (leR v g) := by
  obtain ⟨a, l', rfl⟩ : ∃ a l', l = a :: l' := by
    cases l with
    | nil => simp at h0
    | cons a l' => exact ⟨a, l', rfl⟩
  obtain ⟨h1, h2⟩ := minR_spec l' a hv
  have den : ∀ x ∈ a :: l', 1 ≤ x.2 := fun x hx => (isRat_spec (hv x hx)).2.2.1
  have dv := (isRat_spec hr).2.2.1
  rw [Bool.eq_iff_iff]
  simp only [decide_eq_true_eq, List.all_eq_true, cmpR_ge]
  exact ⟨fun h x hx => leR_trans dv (den _ h2) (den x hx) h (h1 x hx), fun h => h _ h2⟩

theorem impl_isSolution_ok (m : List (List Int)) (hm : isMat m = true) (x : Sol) (hr : x.r.length ≤ 1000000000000) (hc : x.c.length ≤ 1000000000000) : Pure Try.prog 74 [rows m, solT x] (.b (isSolB m x)) := by
  obtain ⟨h1, h2, h3, h4, h5, h6⟩ := isMat_spec hm
  refine fun_impl_isSolution (by simp) ?_
  simp -implicitDefEqProofs only [go_sem, evR, ints, rows, rat, rats, c_impl_isSolution, solT]
  refine CallV.pure (impl_IsMix_ok x.r m.length hr) [] rfl Try.call87 (fun e R' hR => ?_) (by first | trivial | simp [T.noSh, T.noShL, rat]) (fun _ => rfl) ?_
  · simp -implicitDefEqProofs only [agR, Nat.reduceLeDiff, Nat.reduceSub, vaR, go_sem, ints, rows, rat, rats, ratsO, rtR, intsO, rowsO]
  simp -implicitDefEqProofs only [go_sem, evR, ints, rows, rat, rats]
  refine ⟨fun hb1 => ⟨by omega, by omega, fun r0 h0 => ?_⟩, fun hb1 => ?_⟩
  · have hb1 : isMixB x.r m.length = true := by simpa using hb1
    have hh := headD_get h0
    have hwid : wid m = r0.length := by rw [wid, hh]
    rw [hh] at h3 h4 h5
    refine CallV.pure (impl_IsMix_ok x.c r0.length hc) [] rfl Try.call87 (fun e R' hR => ?_) (by first | trivial | simp [T.noSh, T.noShL, rat]) (fun _ => rfl) ?_
    · simp -implicitDefEqProofs only [agR, Nat.reduceLeDiff, Nat.reduceSub, vaR, go_sem, ints, rows, rat, rats, ratsO, rtR, intsO, rowsO]
    simp -implicitDefEqProofs only [go_sem, evR, ints, rows, rat, rats]
    refine ⟨fun hb2 => ?_, fun hb2 => ?_⟩
    · have hb2 : isMixB x.c r0.length = true := by simpa using hb2
      refine CallV.pure (impl_IsRatio_ok x.v) [] rfl Try.call88 (fun e R' hR => ?_) (by first | trivial | simp [T.noSh, T.noShL, rat]) (fun _ => rfl) ?_
      · simp -implicitDefEqProofs only [agR, Nat.reduceLeDiff, Nat.reduceSub, vaR, go_sem, ints, rows, rat, rats, ratsO, rtR, intsO, rowsO]
      simp -implicitDefEqProofs only [go_sem, evR, ints, rows, rat, rats]
      refine ⟨fun hb3 => ?_, fun hb3 => ?_⟩
      · have hb3 : isRat x.v = false := by simpa using hb3
        rw [isSolB, hb3]; simp
      · have hb3 : isRat x.v = true := by simpa using hb3
        have hrl : x.r.length = m.length := (mix_spec hb1).1
        have hcl : x.c.length = r0.length := (mix_spec hb2).1
        have hsol : isSolB m x = (decide ((gainsGo x.c m).2 = 0) && decide ((gainsGo x.r (tr m r0.length)).2 = 0) && ((gainsGo x.c m).1.all fun g => decide (leR g x.v)) && ((gainsGo x.r (tr m r0.length)).1.all fun g => decide (leR x.v g))) := by
          rw [isSolB, hwid, hb1, hb2, hb3]; rfl
        rw [hsol]
        refine CallW.res (impl_gainsOf_ok m x.c (by omega) (by omega) (fun r hr => by have := h5 r hr; omega)) [] rfl Try.call89 ?_ (.inl rfl) ?_
        · simp -implicitDefEqProofs only [agR, Nat.reduceLeDiff, Nat.reduceSub, vaR, go_sem, ints, rows, rat, rats, ratsO, rtR, intsO, rowsO]
        simp -implicitDefEqProofs only [clR, Nat.reduceLeDiff, go_sem, evR, rat, gT]
        refine CallC.res (impl_turned_ok m r0.length (by intro h; rw [h] at h1; simp at h1) h5 (by omega) (by omega)) [] rfl Try.call62 (fun e R' hR => ?_) (.inl rfl) ?_
        · simp -implicitDefEqProofs only [agR, Nat.reduceLeDiff, Nat.reduceSub, vaR, go_sem, ints, rows, rat, rats, ratsO, rtR, intsO, rowsO]
        simp -implicitDefEqProofs only [clR, Nat.reduceLeDiff, go_sem, evR, rat]
        have htl := tr_length m r0.length
        have htr : ∀ r ∈ tr m r0.length, r.length = m.length := tr_rows
        refine CallC.res (impl_gainsOf_ok (tr m r0.length) x.r (by omega) (by omega) (fun r hr => by have := htr r hr; omega)) [40] rfl Try.call89 (fun e R' hR => ?_) (.inr (gT_noSh _)) ?_
        · have hq40 := (hR 40).resolve_left (by simp -implicitDefEqProofs only [go_sem, evR, ints, rows, rat, rats, not_false_eq_true])
          simp -implicitDefEqProofs only [go_sem, evR, ints, rows, rat, rats] at hq40
          simp -implicitDefEqProofs only [agR, Nat.reduceLeDiff, Nat.reduceSub, vaR, go_sem, ints, rows, rat, rats, ratsO, rtR, intsO, rowsO, hq40]
        simp -implicitDefEqProofs only [clR, Nat.reduceLeDiff, go_sem, evR, rat, gT]
        refine ⟨fun hc1 => ?_, fun hc1 => ?_⟩
        · have hc1 : (gainsGo x.c m).2 = 0 := by simpa using hc1
          refine ⟨fun hc2 => ?_, fun hc2 => ?_⟩
          · have hc2 : (gainsGo x.r (tr m r0.length)).2 ≠ 0 := by simpa using hc2
            rw [decide_eq_false hc2]; simp
          · have hc2 : (gainsGo x.r (tr m r0.length)).2 = 0 := by simpa using hc2
            have hgl1 := gainsGo_length x.c m hc1
            have hgl2 := gainsGo_length x.r (tr m r0.length) hc2
            have hv1 := gainsGo_valid x.c m
            have hv2 := gainsGo_valid x.r (tr m r0.length)
            rw [decide_eq_true hc1, decide_eq_true hc2]
            have hM := maxR_le (v := x.v) (by omega : 1 ≤ (gainsGo x.c m).1.length) hv1 hb3
            have hN := minR_ge (v := x.v) (by omega : 1 ≤ (gainsGo x.r (tr m r0.length)).1.length) hv2 hb3
            rw [← hM, ← hN]
            refine CallV.pure (slices_MaxFunc_ok (gainsGo x.c m).1 hv1 (by omega) (by omega)) [35] rfl Try.call91 (fun e R' hR => ?_) (by first | trivial | simp [T.noSh, T.noShL, rat]) (fun _ => rfl) ?_
            · have hq35 := (hR 35).resolve_left (by simp -implicitDefEqProofs only [go_sem, evR, ints, rows, rat, rats, not_false_eq_true])
              simp -implicitDefEqProofs only [go_sem, evR, ints, rows, rat, rats] at hq35
              simp -implicitDefEqProofs only [agR, Nat.reduceLeDiff, Nat.reduceSub, vaR, go_sem, ints, rows, rat, rats, ratsO, rtR, intsO, rowsO, hq35]
            simp -implicitDefEqProofs only [go_sem, evR, ints, rows, rat, rats]
            refine CallV.pure (impl_compareRatios_ok (maxR (gainsGo x.c m).1) x.v (hv1 _ (maxR_mem (List.ne_nil_of_length_pos (by omega)))) hb3) [] rfl Try.call90 (fun e R' hR => ?_) (by first | trivial | simp [T.noSh, T.noShL, rat]) (fun _ => rfl) ?_
            · simp -implicitDefEqProofs only [agR, Nat.reduceLeDiff, Nat.reduceSub, vaR, go_sem, ints, rows, rat, rats, ratsO, rtR, intsO, rowsO]
            simp -implicitDefEqProofs only [go_sem, evR, ints, rows, rat, rats]
            refine ⟨fun hle => ?_, fun hle => by rw [decide_eq_false hle]; rfl⟩
            refine CallV.pure (slices_MinFunc_ok (gainsGo x.r (tr m r0.length)).1 hv2 (by omega) (by omega)) [43] rfl Try.call92 (fun e R' hR => ?_) (by first | trivial | simp [T.noSh, T.noShL, rat]) (fun _ => rfl) ?_
            · have hq43 := (hR 43).resolve_left (by simp -implicitDefEqProofs only [go_sem, evR, ints, rows, rat, rats, not_false_eq_true])
              simp -implicitDefEqProofs only [go_sem, evR, ints, rows, rat, rats] at hq43
              simp -implicitDefEqProofs only [agR, Nat.reduceLeDiff, Nat.reduceSub, vaR, go_sem, ints, rows, rat, rats, ratsO, rtR, intsO, rowsO, hq43]
            simp -implicitDefEqProofs only [go_sem, evR, ints, rows, rat, rats]
            refine CallV.pure (impl_compareRatios_ok (minR (gainsGo x.r (tr m r0.length)).1) x.v (hv2 _ (minR_mem (List.ne_nil_of_length_pos (by omega)))) hb3) [] rfl Try.call90 (fun e R' hR => ?_) (by first | trivial | simp [T.noSh, T.noShL, rat]) (fun _ => rfl) ?_
            · simp -implicitDefEqProofs only [agR, Nat.reduceLeDiff, Nat.reduceSub, vaR, go_sem, ints, rows, rat, rats, ratsO, rtR, intsO, rowsO]
            simp -implicitDefEqProofs only [go_sem, evR, ints, rows, rat, rats]
            rw [decide_eq_true hle]; rfl
        · have hc1 : (gainsGo x.c m).2 ≠ 0 := by simpa using hc1
          rw [decide_eq_false hc1]; simp
    · have hb2 : isMixB x.c r0.length = false := by simpa using hb2
      rw [isSolB, hwid, hb2]; simp
  · have hb1 : isMixB x.r m.length = false := by simpa using hb1
    rw [isSolB, hb1]; simp

theorem spec_l27Is_ok (m : List (List Int)) (hm : isMat m = true) (x : Sol) (hr : x.r.length ≤ 1000000000000) (hc : x.c.length ≤ 1000000000000) : Pure Try.prog 76 [rows m, solT x] (.b (isSolB m x)) := by
  obtain ⟨h1, h2, h3, h4, h5, h6⟩ := isMat_spec hm
  refine fun_spec_l27Is (by simp) ?_
  simp -implicitDefEqProofs only [go_sem, evR, ints, rows, rat, rats, c_spec_l27Is, solT]
  refine CallV.pure (spec_IsMix_ok x.r m.length hr) [] rfl Try.call93 (fun e R' hR => ?_) (by first | trivial | simp [T.noSh, T.noShL, rat]) (fun _ => rfl) ?_
  · simp -implicitDefEqProofs only [agR, Nat.reduceLeDiff, Nat.reduceSub, vaR, go_sem, ints, rows, rat, rats, ratsO, rtR, intsO, rowsO]
  simp -implicitDefEqProofs only [go_sem, evR, ints, rows, rat, rats]
  refine ⟨fun hb1 => ⟨by omega, by omega, fun r0 h0 => ?_⟩, fun hb1 => ?_⟩
  · have hb1 : isMixB x.r m.length = true := by simpa using hb1
    have hh := headD_get h0
    have hwid : wid m = r0.length := by rw [wid, hh]
    rw [hh] at h3 h4 h5
    refine CallV.pure (spec_IsMix_ok x.c r0.length hc) [] rfl Try.call93 (fun e R' hR => ?_) (by first | trivial | simp [T.noSh, T.noShL, rat]) (fun _ => rfl) ?_
    · simp -implicitDefEqProofs only [agR, Nat.reduceLeDiff, Nat.reduceSub, vaR, go_sem, ints, rows, rat, rats, ratsO, rtR, intsO, rowsO]
    simp -implicitDefEqProofs only [go_sem, evR, ints, rows, rat, rats]
    refine ⟨fun hb2 => ?_, fun hb2 => ?_⟩
    · have hb2 : isMixB x.c r0.length = true := by simpa using hb2
      refine CallV.pure (spec_IsRatio_ok x.v) [] rfl Try.call94 (fun e R' hR => ?_) (by first | trivial | simp [T.noSh, T.noShL, rat]) (fun _ => rfl) ?_
      · simp -implicitDefEqProofs only [agR, Nat.reduceLeDiff, Nat.reduceSub, vaR, go_sem, ints, rows, rat, rats, ratsO, rtR, intsO, rowsO]
      simp -implicitDefEqProofs only [go_sem, evR, ints, rows, rat, rats]
      refine ⟨fun hb3 => ?_, fun hb3 => ?_⟩
      · have hb3 : isRat x.v = false := by simpa using hb3
        rw [isSolB, hb3]; simp
      · have hb3 : isRat x.v = true := by simpa using hb3
        have hrl : x.r.length = m.length := (mix_spec hb1).1
        have hcl : x.c.length = r0.length := (mix_spec hb2).1
        have hsol : isSolB m x = (decide ((gainsGo x.c m).2 = 0) && decide ((gainsGo x.r (tr m r0.length)).2 = 0) && ((gainsGo x.c m).1.all fun g => decide (leR g x.v)) && ((gainsGo x.r (tr m r0.length)).1.all fun g => decide (leR x.v g))) := by
          rw [isSolB, hwid, hb1, hb2, hb3]; rfl
        rw [hsol]
        refine CallH.ref (spec_l26Rows_ok 0 m x.c (by omega) (by omega) (fun r hr => by have := h5 r hr; omega)) [33] [] rfl Try.call95 (by simp) ?_ (by simp) (fun e R' hR => ?_) (.inl rfl) ?_
        · simp -implicitDefEqProofs only [srR, Nat.reduceEqDiff, ↓reduceIte, ints, rows, intsO, rowsO]
        · simp -implicitDefEqProofs only [agR, Nat.reduceLeDiff, Nat.reduceSub, vaR, go_sem, ints, rows, rat, rats, ratsO, rtR, intsO, rowsO]
        simp -implicitDefEqProofs only [clR, Nat.reduceLeDiff, go_sem, evR, rat]
        refine ⟨?_, ((frameOK.refl _ _ _).upd _ (.inl (by simp))).upd _ (.inr rfl)⟩
        have htl := tr_length m r0.length
        have hm0 : m ≠ [] := by intro h; rw [h] at h1; simp at h1
        refine CallH.ref (spec_l26Columns_ok (rowsGo x.c 0 m).2 m r0.length x.r hm0 (by omega) (by omega) (by omega) h5) [33] [] rfl Try.call96 (by simp) ?_ (by simp) (fun e R' hR => ?_) (.inl rfl) ?_
        · simp -implicitDefEqProofs only [srR, Nat.reduceEqDiff, ↓reduceIte, ints, rows, intsO, rowsO]
        · simp -implicitDefEqProofs only [agR, Nat.reduceLeDiff, Nat.reduceSub, vaR, go_sem, ints, rows, rat, rats, ratsO, rtR, intsO, rowsO]
        simp -implicitDefEqProofs only [clR, Nat.reduceLeDiff, go_sem, evR, rat]
        have hrs1 := rowsGo_spec x.c m
        have hrs2 := rowsGo_spec x.r (tr m r0.length)
        have hcode : (rowsGo x.r (rowsGo x.c 0 m).2 (tr m r0.length)).2 = 0 ↔ (gainsGo x.c m).2 = 0 ∧ (gainsGo x.r (tr m r0.length)).2 = 0 := by
          rw [hrs1.1]
          by_cases hc1 : (gainsGo x.c m).2 = 0
          · rw [hc1, hrs2.1]; simp
          · rw [rowsGo_err _ _ _ hc1]; simp [hc1]
        refine ⟨fun hco => ?_, fun hco => ?_⟩
        · have hco : ¬ (rowsGo x.r (rowsGo x.c 0 m).2 (tr m r0.length)).2 = 0 := by simpa using hco
          rw [hcode] at hco
          by_cases hc1 : (gainsGo x.c m).2 = 0
          · rw [decide_eq_false (fun h => hco ⟨hc1, h⟩)]; simp
          · rw [decide_eq_false hc1]; simp
        · have hco : (rowsGo x.r (rowsGo x.c 0 m).2 (tr m r0.length)).2 = 0 := by simpa using hco
          obtain ⟨hc1, hc2⟩ := hcode.1 hco
          have hgl1 := gainsGo_length x.c m hc1
          have hgl2 := gainsGo_length x.r (tr m r0.length) hc2
          have hv1 := gainsGo_valid x.c m
          have hv2 := gainsGo_valid x.r (tr m r0.length)
          rw [decide_eq_true hc1, decide_eq_true hc2, hrs1.1, hc1, hrs1.2 hc1, hrs2.2 hc2]
          generalize (gainsGo x.c m).1 = G at hgl1 hv1 ⊢
          generalize (gainsGo x.r (tr m r0.length)).1 = H at hgl2 hv2 ⊢
          have hGl : G.length ≤ 1000000000000 := by omega
          have hHl : H.length ≤ 1000000000000 := by omega
          refine SemC.loopR (σ := Nat) (fun i => St.of [(3, .own 3), (6, .own 38), (7, .own 43), (8, .t (.i i))] [(3, .box [rats x.r, rats x.c, .i x.v.1, .i x.v.2]), (38, .arr 2 (ratC G)), (43, .arr 2 (ratC H))]) (fun i => i ≤ G.length ∧ ∀ y ∈ G.take i, leR y x.v) (fun i => G.length - i) 0 (Weak.of _ _ [some 3, some 38, some 43] (by simp) (by simp) ?_ ?_) ⟨by simp, by simp⟩ fun i hI R hn hr he => ?_
          · simp -implicitDefEqProofs only [ints, rows, Nat.reduceBEq, wkR, Nat.reduceEqDiff, ↓reduceIte, wrR, rats]
          · exact ⟨⟨_, rfl, .refl _⟩, rfl, ⟨_, rfl, .refl _⟩, rfl, ⟨_, rfl, .refl _⟩, rfl, trivial⟩
          · obtain ⟨hi, hall⟩ := hI
            simp -implicitDefEqProofs only [go_sem, evR, ints, rows, rat, rats]
            refine ⟨fun hlt => ?_, fun hlt => he _ _ ?_⟩
            · obtain ⟨y, hy⟩ : ∃ y, G[i]? = some y := ⟨_, List.getElem?_eq_getElem (by omega)⟩
              have hyv := hv1 y (List.mem_of_getElem? hy)
              refine ⟨by omega, by rw [ratC_length]; omega, by rw [ratC_length]; omega, ?_⟩
              rw [ratC_at hy]
              refine CallV.pure (spec_l01Compare_ok y x.v hyv hb3) [] rfl Try.call97 (fun e R' hR => ?_) (by first | trivial | simp [T.noSh, T.noShL, rat]) (fun _ => rfl) ?_
              · simp -implicitDefEqProofs only [agR, Nat.reduceLeDiff, Nat.reduceSub, vaR, go_sem, ints, rows, rat, rats, ratsO, rtR, intsO, rowsO]
              simp -implicitDefEqProofs only [go_sem, evR, ints, rows, rat, rats]
              refine ⟨fun hgt => hr _ ?_, fun hgt => hn _ (i + 1) (Weak.of _ _ [some 3, some 38, some 43] (by simp) (by simp) ?_ ?_) ⟨by omega, take_succ_all hy hall (cmpR_le.1 (by omega))⟩ (by omega)⟩
              · simp -implicitDefEqProofs only [go_sem, evR, ints, rows, rat, rats]
                have hno : (G.all fun g => decide (leR g x.v)) = false := by
                  cases hc : G.all fun g => decide (leR g x.v) with
                  | false => rfl
                  | true =>
                    rw [List.all_eq_true] at hc
                    have := hc y (List.mem_of_getElem? hy)
                    exact absurd (by simpa using this) (cmpR_gt.1 hgt)
                rw [hno]; rfl
              · simp -implicitDefEqProofs only [ints, rows, Nat.reduceBEq, wkR, Nat.reduceEqDiff, ↓reduceIte, wrR, rats, next64 (by omega : i < G.length) hGl]
              · exact ⟨⟨_, rfl, .refl _⟩, rfl, ⟨_, rfl, .refl _⟩, rfl, ⟨_, rfl, .refl _⟩, rfl, trivial⟩
            · simp -implicitDefEqProofs only [go_sem, evR, ints, rows, rat, rats]
              have hGa : (G.all fun g => decide (leR g x.v)) = true := by
                rw [List.all_eq_true]
                intro y hy
                exact decide_eq_true (hall y (by rw [List.take_of_length_le (by omega)]; exact hy))
              rw [hGa]
              refine SemC.loopR (σ := Nat) (fun i => St.of [(3, .own 3), (7, .own 43), (9, .t (.i i))] [(3, .box [rats x.r, rats x.c, .i x.v.1, .i x.v.2]), (43, .arr 2 (ratC H))]) (fun i => i ≤ H.length ∧ ∀ y ∈ H.take i, leR x.v y) (fun i => H.length - i) 0 (Weak.of _ _ [some 3, some 43] (by simp) (by simp) ?_ ?_) ⟨by simp, by simp⟩ fun k hI R2 hn2 hr2 he2 => ?_
              · simp -implicitDefEqProofs only [ints, rows, Nat.reduceBEq, wkR, Nat.reduceEqDiff, ↓reduceIte, wrR, rats]
              · exact ⟨⟨_, rfl, .refl _⟩, rfl, ⟨_, rfl, .refl _⟩, rfl, trivial⟩
              · obtain ⟨hk, hall2⟩ := hI
                simp -implicitDefEqProofs only [go_sem, evR, ints, rows, rat, rats]
                refine ⟨fun hlt => ?_, fun hlt => he2 _ _ ?_⟩
                · obtain ⟨y, hy⟩ : ∃ y, H[k]? = some y := ⟨_, List.getElem?_eq_getElem (by omega)⟩
                  have hyv := hv2 y (List.mem_of_getElem? hy)
                  refine ⟨by omega, by rw [ratC_length]; omega, by rw [ratC_length]; omega, ?_⟩
                  rw [ratC_at hy]
                  refine CallV.pure (spec_l01Compare_ok y x.v hyv hb3) [] rfl Try.call97 (fun e R' hR => ?_) (by first | trivial | simp [T.noSh, T.noShL, rat]) (fun _ => rfl) ?_
                  · simp -implicitDefEqProofs only [agR, Nat.reduceLeDiff, Nat.reduceSub, vaR, go_sem, ints, rows, rat, rats, ratsO, rtR, intsO, rowsO]
                  simp -implicitDefEqProofs only [go_sem, evR, ints, rows, rat, rats]
                  refine ⟨fun hgt => hr2 _ ?_, fun hgt => hn2 _ (k + 1) (Weak.of _ _ [some 3, some 43] (by simp) (by simp) ?_ ?_) ⟨by omega, take_succ_all hy hall2 (cmpR_ge.1 (by omega))⟩ (by omega)⟩
                  · simp -implicitDefEqProofs only [go_sem, evR, ints, rows, rat, rats]
                    have hno : (H.all fun g => decide (leR x.v g)) = false := by
                      cases hc : H.all fun g => decide (leR x.v g) with
                      | false => rfl
                      | true =>
                        rw [List.all_eq_true] at hc
                        have := hc y (List.mem_of_getElem? hy)
                        exact absurd (by simpa using this) (cmpR_lt.1 hgt)
                    rw [hno]
                  · simp -implicitDefEqProofs only [ints, rows, Nat.reduceBEq, wkR, Nat.reduceEqDiff, ↓reduceIte, wrR, rats, next64 (by omega : k < H.length) hHl]
                  · exact ⟨⟨_, rfl, .refl _⟩, rfl, ⟨_, rfl, .refl _⟩, rfl, trivial⟩
                · simp -implicitDefEqProofs only [go_sem, evR, ints, rows, rat, rats]
                  have hHa : (H.all fun g => decide (leR x.v g)) = true := by
                    rw [List.all_eq_true]
                    intro y hy
                    exact decide_eq_true (hall2 y (by rw [List.take_of_length_le (by omega)]; exact hy))
                  rw [hHa]
    · have hb2 : isMixB x.c r0.length = false := by simpa using hb2
      rw [isSolB, hwid, hb2]; simp
  · have hb1 : isMixB x.r m.length = false := by simpa using hb1
    rw [isSolB, hb1]; simp
end Go.Ab

/- Parts out of weights, plainly: the greatest remainders first. -/
set_option linter.unusedSimpArgs false
set_option linter.unusedVariables false
namespace Go.Ab
open Go.Proofs

/-- The index of the first greatest among the first k. -/
def maxI (r : List Int) : Nat → Nat
  | 0 => 0
  | k + 1 => if r.getD (maxI r k) 0 < r.getD k 0 then k else maxI r k
theorem maxI_lt (r : List Int) : ∀ k, k ≤ r.length → 0 < r.length → maxI r k < r.length
  | 0, _, h => h
  | k + 1, hk, h => by
    have := maxI_lt r k (by omega) h
    rw [maxI]; split <;> omega
theorem maxI_max (r : List Int) : ∀ k i, i < k → r.getD i 0 ≤ r.getD (maxI r k) 0
  | k + 1, i, h => by
    have ih := maxI_max r k
    rw [maxI]
    split
    · rename_i h1
      by_cases hi : i = k
      · rw [hi]; exact Int.le_refl _
      · have := ih i (by omega); omega
    · rename_i h1
      by_cases hi : i = k
      · rw [hi]; omega
      · exact ih i (by omega)
theorem sum_set {p : List Int} {b : Nat} (h : b < p.length) (x : Int) : (p.set b x).sum = p.sum - p.getD b 0 + x := by
  induction p generalizing b with
  | nil => simp at h
  | cons a p ih =>
    cases b with
    | zero => simp; omega
    | succ b =>
      have := ih (b := b) (by simpa using h)
      simp only [List.set_cons_succ, List.sum_cons, List.getD_cons_succ]
      omega
/-- Where every part is great enough, so is the sum. -/
theorem sum_le_of {t : Int} : ∀ (w p : List Int), w.length = p.length → (∀ i, i < w.length → 60 * w.getD i 0 ≤ t * p.getD i 0) → 60 * w.sum ≤ t * p.sum
  | [], [], _, _ => by simp
  | a :: w, b :: p, hl, h => by
    have ih := sum_le_of w p (by simpa using hl) fun i hi => by simpa using h (i + 1) (by simpa using hi)
    have h0 := h 0 (by simp)
    simp only [List.getD_cons_zero] at h0
    simp only [List.sum_cons, Int.mul_add]
    omega
/-- What holds while parts are given out. -/
structure HamI (w : List Int) (t : Int) (m : Nat) (p r : List Int) : Prop where
  lp : p.length = w.length
  lr : r.length = w.length
  each : ∀ i, i < w.length → (r.getD i 0 = 60 * w.getD i 0 - t * p.getD i 0 ∧ 0 ≤ r.getD i 0 ∧ r.getD i 0 < t) ∨ (r.getD i 0 = -1 ∧ 60 * w.getD i 0 < t * p.getD i 0 ∧ t * p.getD i 0 < 60 * w.getD i 0 + t)
  sum : p.sum + m = 60
theorem HamI.best {w : List Int} {m : Nat} {p r : List Int} (h : HamI w w.sum (m + 1) p r) (ht : 0 < w.sum) : maxI r r.length < w.length ∧ 0 < r.getD (maxI r r.length) 0 := by
  have ⟨i, hi, hpos⟩ : ∃ i, i < w.length ∧ ¬ 60 * w.getD i 0 ≤ w.sum * p.getD i 0 := by
    by_cases hc : ∃ i, i < w.length ∧ ¬ 60 * w.getD i 0 ≤ w.sum * p.getD i 0
    · exact hc
    · have := sum_le_of (t := w.sum) w p h.lp.symm fun i hi => by
        by_cases h1 : 60 * w.getD i 0 ≤ w.sum * p.getD i 0
        · exact h1
        · exact absurd ⟨i, hi, h1⟩ hc
      have hs := h.sum
      have e : w.sum * p.sum = w.sum * (60 - (m + 1 : Nat)) := by rw [show p.sum = 60 - ((m + 1 : Nat) : Int) by omega]
      rw [e, Int.mul_sub] at this
      have h2 : 0 < w.sum * ((m + 1 : Nat) : Int) := Int.mul_pos ht (by omega)
      omega
  have hri : 0 < r.getD i 0 := by
    rcases h.each i hi with h1 | h1 <;> omega
  have hlr := h.lr
  have h1 := maxI_lt r r.length (Nat.le_refl _) (by omega)
  have h2 := maxI_max r r.length i (by omega)
  exact ⟨by omega, by omega⟩
theorem getD_set_self {l : List Int} {b : Nat} (h : b < l.length) (x : Int) : (l.set b x).getD b 0 = x := by
  rw [List.getD_eq_getElem?_getD, List.getElem?_set_self h]; rfl
theorem getD_set_other {l : List Int} {b i : Nat} (h : i ≠ b) (x : Int) : (l.set b x).getD i 0 = l.getD i 0 := by
  rw [List.getD_eq_getElem?_getD, List.getElem?_set_ne (Ne.symm h), List.getD_eq_getElem?_getD]
theorem HamI.step {w : List Int} {m : Nat} {p r : List Int} (h : HamI w w.sum (m + 1) p r) (ht : 0 < w.sum) : HamI w w.sum m (p.set (maxI r r.length) (p.getD (maxI r r.length) 0 + 1)) (r.set (maxI r r.length) (-1)) := by
  obtain ⟨hb, hr⟩ := h.best ht
  have hlp := h.lp
  have hlr := h.lr
  generalize maxI r r.length = b at hb hr
  refine ⟨by simp [hlp], by simp [hlr], fun i hi => ?_, ?_⟩
  · by_cases hib : i = b
    · subst hib
      right
      rw [getD_set_self (by omega), getD_set_self (by omega)]
      rcases h.each i hi with h1 | h1
      · rw [Int.mul_add]; omega
      · omega
    · rw [getD_set_other hib, getD_set_other hib]
      exact h.each i hi
  · have := h.sum
    rw [sum_set (by omega)]
    omega
end Go.Ab

/- Contracts: sums. -/
set_option linter.unusedSimpArgs false
set_option linter.unusedVariables false
namespace Go.Ab
open Go.Proofs

/-- Small numbers, few of them. -/
def smallL (l : List Int) : Prop := l.length ≤ 1000 ∧ ∀ x ∈ l, -1000000000000 ≤ x ∧ x ≤ 1000000000000
theorem smallL_sum {l : List Int} (h : smallL l) (k : Nat) : -1000000000000000 ≤ (l.take k).sum ∧ (l.take k).sum ≤ 1000000000000000 := by
  obtain ⟨h1, h2⟩ := h
  have key : ∀ (l : List Int), (∀ x ∈ l, -1000000000000 ≤ x ∧ x ≤ 1000000000000) → -(1000000000000 * (l.length : Int)) ≤ l.sum ∧ l.sum ≤ 1000000000000 * (l.length : Int) := by
    intro l
    induction l with
    | nil => intro _; simp
    | cons a l ih =>
      intro h
      have := ih fun x hx => h x (List.mem_cons_of_mem _ hx)
      have := h a (by simp)
      simp only [List.sum_cons, List.length_cons]
      omega
  have := key (l.take k) fun x hx => h2 x (List.mem_of_mem_take hx)
  have hl : (l.take k).length ≤ 1000 := by rw [List.length_take]; omega
  omega
theorem sum_snoc (l : List Int) (x : Int) : (l ++ [x]).sum = l.sum + x := by simp
theorem impl_sumOf_ok (l : List Int) (h : smallL l) : Pure Try.prog 101 [ints l] (.i l.sum) := by
  have hl := h.1
  refine fun_impl_sumOf (by simp) ?_
  simp -implicitDefEqProofs only [go_sem, evR, ints, rows, rat, rats, c_impl_sumOf]
  refine SemC.loopR (σ := Nat) (fun i => St.of [(3, .t (.i (l.take i).sum)), (6, .t (ints l)), (7, .t (.i l.length)), (8, .t (.i i))] []) (fun i => i ≤ l.length) (fun i => l.length - i) 0 (Weak.of _ [] [] (by simp) (by simp) ?_ trivial) (by omega) fun i hi R hn hr he => ?_
  · simp -implicitDefEqProofs only [ints, rows, Nat.reduceBEq, wkR, Nat.reduceEqDiff, ↓reduceIte, wrR, List.take_zero, List.sum_nil]
  · simp -implicitDefEqProofs only [go_sem, evR, ints, rows, rat, rats]
    refine ⟨fun h1 => ⟨by omega, by omega, by omega, fun x hx => ?_⟩, fun h1 => he _ _ ?_⟩
    · have e := sum_snoc (l.take i) x
      rw [← take_snoc hx] at e
      have hb := smallL_sum h (i + 1)
      refine hn _ (i + 1) (Weak.of _ [] [] (by simp) (by simp) ?_ trivial) (by omega) (by omega)
      simp -implicitDefEqProofs only [ints, rows, Nat.reduceBEq, wkR, Nat.reduceEqDiff, ↓reduceIte, wrR, next64 (by omega : i < l.length) (by omega), ← e, wrap64 (n := (l.take (i + 1)).sum) (by omega) (by omega)]
    · simp -implicitDefEqProofs only [go_sem, evR, ints, rows, rat, rats]
      rw [List.take_of_length_le (by omega)]
theorem spec_l01Sum_ok (l : List Int) (h : smallL l) : Pure Try.prog 84 [ints l] (.i l.sum) := by
  have hl := h.1
  refine fun_spec_l01Sum (by simp) ?_
  simp -implicitDefEqProofs only [go_sem, evR, ints, rows, rat, rats, c_spec_l01Sum]
  refine SemC.loopR (σ := Nat) (fun i => St.of [(0, .t (ints l)), (3, .t (.i (l.take i).sum)), (4, .t (.i i))] []) (fun i => i ≤ l.length) (fun i => l.length - i) 0 (Weak.of _ [] [] (by simp) (by simp) ?_ trivial) (by omega) fun i hi R hn hr he => ?_
  · simp -implicitDefEqProofs only [ints, rows, Nat.reduceBEq, wkR, Nat.reduceEqDiff, ↓reduceIte, wrR, List.take_zero, List.sum_nil]
  · simp -implicitDefEqProofs only [go_sem, evR, ints, rows, rat, rats]
    refine ⟨fun h1 => ⟨by omega, by omega, by omega, fun x hx => ?_⟩, fun h1 => he _ _ ?_⟩
    · have e := sum_snoc (l.take i) x
      rw [← take_snoc hx] at e
      have hb := smallL_sum h (i + 1)
      refine hn _ (i + 1) (Weak.of _ [] [] (by simp) (by simp) ?_ trivial) (by omega) (by omega)
      simp -implicitDefEqProofs only [ints, rows, Nat.reduceBEq, wkR, Nat.reduceEqDiff, ↓reduceIte, wrR, next64 (by omega : i < l.length) (by omega), ← e, wrap64 (n := (l.take (i + 1)).sum) (by omega) (by omega)]
    · simp -implicitDefEqProofs only [go_sem, evR, ints, rows, rat, rats]
      rw [List.take_of_length_le (by omega)]
end Go.Ab

/- A matrix times its adjugate. -/
set_option linter.unusedSimpArgs false
set_option linter.unusedVariables false
namespace Go.Ab

theorem list_len {α : Type} {l : List α} : (l.length = 0 → l = []) ∧ (l.length = 1 → ∃ a, l = [a]) ∧ (l.length = 2 → ∃ a b, l = [a, b]) ∧ (l.length = 3 → ∃ a b c, l = [a, b, c]) ∧ (l.length = 4 → ∃ a b c d, l = [a, b, c, d]) := by
  refine ⟨fun h => List.length_eq_zero_iff.1 h, fun h => ?_, fun h => ?_, fun h => ?_, fun h => ?_⟩
  · match l, h with
    | [a], _ => exact ⟨a, rfl⟩
  · match l, h with
    | [a, b], _ => exact ⟨a, b, rfl⟩
  · match l, h with
    | [a, b, c], _ => exact ⟨a, b, c, rfl⟩
  · match l, h with
    | [a, b, c, d], _ => exact ⟨a, b, c, d, rfl⟩

end Go.Ab

/- Contracts: parts, the reference's. -/
set_option linter.unusedSimpArgs false
set_option linter.unusedVariables false
namespace Go.Ab
open Go.Proofs

/-- Weights that PartsOf takes. -/
def weightsOK (w : List Int) : Prop := 1 ≤ w.length ∧ w.length ≤ 4 ∧ ∀ x ∈ w, 0 ≤ x ∧ x ≤ 1000000000
theorem HamI.small {w : List Int} {t : Int} {m : Nat} {p r : List Int} (h : HamI w t m p r) (ht : 0 < t) {i : Nat} (hi : i < w.length) (hw : 0 ≤ w.getD i 0 ∧ w.getD i 0 ≤ 1000000000) : 0 ≤ p.getD i 0 ∧ p.getD i 0 ≤ 100000000000 := by
  have key : -t < t * p.getD i 0 ∧ t * p.getD i 0 < 60 * w.getD i 0 + t := by
    rcases h.each i hi with h1 | h1 <;> omega
  refine ⟨?_, ?_⟩
  · have h1 : t * (-1) < t * p.getD i 0 := by omega
    have := Int.lt_of_mul_lt_mul_left h1 (by omega)
    omega
  · have h1 := Int.mul_le_mul_of_nonneg_right (show (1 : Int) ≤ t by omega) (show 0 ≤ 60 * w.getD i 0 by omega)
    have h2 : t * p.getD i 0 < t * (60 * w.getD i 0 + 1) := by rw [Int.mul_add, Int.mul_one]; omega
    have := Int.lt_of_mul_lt_mul_left h2 (by omega)
    omega
end Go.Ab

/- The bridge, part 5: bytes. -/
set_option linter.unusedSimpArgs false
set_option linter.unusedVariables false
namespace Go.Ab

/-- Bytes, as the program holds them. -/
def bytes (cs : List Int) : T := .sh 1 (cs.map fun x => .v (.int .u8 x))
def bytesOK (cs : List Int) : Prop := ∀ c ∈ cs, 0 ≤ c ∧ c ≤ 255
def tyU8s : Ty := .sl 1 (.int .u8)
theorem wf8 {n : Int} (h : (Lit.int .u8 n).wf = true) : 0 ≤ n ∧ n ≤ 255 := by
  simp [Lit.wf, IntKind.min, IntKind.max, IntKind.signed, IntKind.bits] at h
  omega
theorem flat_bytes : ∀ {xs : List (List T)}, (∀ x ∈ xs, x.length = 1 ∧ (Ty.int .u8).wt x) → ∃ l : List Int, xs.flatten = (l.map fun x => T.v (.int .u8 x)) ∧ l.length = xs.length ∧ bytesOK l
  | [], _ => ⟨[], rfl, rfl, fun x hx => by simp at hx⟩
  | x :: xs, h => by
    obtain ⟨l, hl, hlen, hf⟩ := flat_bytes (xs := xs) fun y hy => h y (by simp [hy])
    obtain ⟨_, n, rfl, hw⟩ := h x (by simp)
    refine ⟨n :: l, by simp [hl], by simp [hlen], fun y hy => ?_⟩
    rcases List.mem_cons.1 hy with rfl | hy
    · exact wf8 hw
    · exact hf y hy
theorem wt_bytes {x : T} (h : tyU8s.wt [x]) : ∃ l : List Int, x = bytes l ∧ l.length ≤ 9223372036854775807 ∧ bytesOK l := by
  obtain ⟨xs, hx, hlen, hall⟩ := h
  obtain ⟨l, hl, hll, hf⟩ := flat_bytes hall
  simp only [List.cons.injEq, and_true] at hx
  exact ⟨l, by rw [hx, hl]; rfl, by rw [hll]; exact hlen, hf⟩
end Go.Ab

/- Contracts: the source of drawn numbers. -/
set_option linter.unusedSimpArgs false
set_option linter.unusedVariables false
namespace Go.Ab
open Go.Proofs

/-- A source: its code, how much of it is used up, its seed. -/
def srcT (cs : List Int) (a : Nat × Int) : T := .box [bytes cs, .i a.1, .i a.2]
def seedOK (a : Nat × Int) : Prop := 0 ≤ a.2 ∧ a.2 < 2147483647 ∧ a.1 ≤ 1000000000000
def fromS (l : List Int) : Int := l.foldl (fun s c => (s * 61 + c) % 2147483647) 45007
theorem fromS_snoc (l : List Int) (c : Int) : fromS (l ++ [c]) = (fromS l * 61 + c) % 2147483647 := by simp [fromS, List.foldl_append]
theorem fromS_bound (l : List Int) : 0 ≤ fromS l ∧ fromS l < 2147483647 := by
  rcases List.eq_nil_or_concat l with rfl | ⟨l, c, rfl⟩
  · decide
  · rw [List.concat_eq_append, fromS_snoc]
    omega
/-- One number below n, and the source behind it. -/
def nextS (cs : List Int) (a : Nat × Int) (n : Int) : Int × (Nat × Int) :=
  if n ≤ 1 then (0, a) else
  let s := (a.2 * 48271 + 29) % 2147483647
  if a.1 < cs.length then ((if n ≤ 256 ∧ (a.1 + 1) % 2 = 0 then cs.getD a.1 0 else s / 31 + cs.getD a.1 0) % n, (a.1 + 1, s)) else ((s / 31) % n, (a.1, s))
theorem nextS_bound {cs : List Int} {a : Nat × Int} {n : Int} (hn : 1 ≤ n) : 0 ≤ (nextS cs a n).1 ∧ (nextS cs a n).1 < n := by
  unfold nextS
  split
  · omega
  · split
    · exact ⟨Int.emod_nonneg _ (by omega), Int.emod_lt_of_pos _ (by omega)⟩
    · exact ⟨Int.emod_nonneg _ (by omega), Int.emod_lt_of_pos _ (by omega)⟩

theorem spec_l01From_ok (cs : List Int) (hc : bytesOK cs) (hl : cs.length ≤ 1000000000000) : Fun Try.prog 61 [] [.t (bytes cs)] fun o r => o = [] ∧ r = srcT cs (0, fromS (cs.take 64)) := by
  refine fun_spec_l01From (by simp) ?_
  simp -implicitDefEqProofs only [go_sem, evR, ints, rows, rat, rats, c_spec_l01From, bytes]
  refine SemC.loopR (σ := Nat) (fun i => St.of [(0, .t (bytes cs)), (3, .own 7), (4, .t (.i i))] [(7, .box [bytes cs, .i 0, .i (fromS (cs.take i))])]) (fun i => i ≤ 64 ∧ i ≤ cs.length) (fun i => 64 - i) 0 (Weak.of _ _ [some 7] (by simp) (by simp) ?_ ?_) ⟨by omega, by omega⟩ fun i hi R hn hr he => ?_
  · simp -implicitDefEqProofs only [ints, rows, Nat.reduceBEq, wkR, Nat.reduceEqDiff, ↓reduceIte, wrR, bytes]
  · exact ⟨⟨_, rfl, .refl _⟩, rfl, trivial⟩
  · simp -implicitDefEqProofs only [go_sem, evR, ints, rows, rat, rats, bytes]
    refine ⟨fun h1 => ⟨fun h2 => ⟨by omega, by omega, by omega, fun c hcc => ⟨by decide, ?_⟩⟩, fun h2 => he _ _ ?_⟩, fun h1 => he _ _ ?_⟩
    · have hb := hc c (List.mem_of_getElem? hcc)
      have hf := fromS_bound (cs.take i)
      have e := fromS_snoc (cs.take i) c
      rw [← take_snoc hcc] at e
      have hw : (IntKind.i64.wrap (IntKind.i64.wrap (fromS (cs.take i) * 61) + IntKind.i64.wrap c)).tmod 2147483647 = fromS (cs.take (i + 1)) := by
        rw [wrap64 (n := c) (by omega) (by omega), wrap64 (n := fromS (cs.take i) * 61) (by omega) (by omega), wrap64 (n := fromS (cs.take i) * 61 + c) (by omega) (by omega), Int.tmod_eq_emod_of_nonneg (by omega), e]
      rw [hw]
      refine hn _ (i + 1) (Weak.of _ _ [some 7] (by simp) (by simp) ?_ ?_) ⟨by omega, by omega⟩ (by omega)
      · simp -implicitDefEqProofs only [ints, rows, Nat.reduceBEq, wkR, Nat.reduceEqDiff, ↓reduceIte, wrR, bytes, next64 (by omega : i < cs.length) (by omega)]
      · exact ⟨⟨_, rfl, .refl _⟩, rfl, trivial⟩
    · simp -implicitDefEqProofs only [go_sem, evR, ints, rows, rat, rats, srcT, bytes]
      rw [show i = 64 by omega]; rfl
    · simp -implicitDefEqProofs only [go_sem, evR, ints, rows, rat, rats, srcT, bytes]
      have e : cs.take i = cs.take 64 := by rw [List.take_of_length_le (by omega), List.take_of_length_le (by omega)]
      rw [e]; rfl
set_option maxRecDepth 10000 in
theorem spec_l01Next_ok (cs : List Int) (hc : bytesOK cs) (hl : cs.length ≤ 100000000000) (a : Nat × Int) (ha : seedOK a) (n : Int) (hn : n ≤ 1000000000000) : Fun Try.prog 71 [srcT cs a] [.own 1000000000, .t (.i n)] fun o r => o = [srcT cs (nextS cs a n).2] ∧ r = .i (nextS cs a n).1 := by
  refine fun_spec_l01Next (by simp) ?_
  simp -implicitDefEqProofs only [go_sem, evR, ints, rows, rat, rats, c_spec_l01Next, srcT, bytes]
  obtain ⟨a1, a2⟩ := a
  obtain ⟨h1, h2, h3⟩ := ha
  simp only [] at h1 h2 h3
  have hs : (IntKind.i64.wrap (IntKind.i64.wrap (a2 * 48271) + 29)).tmod 2147483647 = (a2 * 48271 + 29) % 2147483647 := by
    rw [wrap64 (n := a2 * 48271) (by omega) (by omega), wrap64 (n := a2 * 48271 + 29) (by omega) (by omega), Int.tmod_eq_emod_of_nonneg (by omega)]
  have hs1 := Int.emod_nonneg (a2 * 48271 + 29) (show (2147483647 : Int) ≠ 0 by decide)
  have hs2 := Int.emod_lt_of_pos (a2 * 48271 + 29) (show (0 : Int) < 2147483647 by decide)
  have hw1 : IntKind.i64.wrap ((a1 : Int) + 1) = ((a1 + 1 : Nat) : Int) := by rw [wrap64 (by omega) (by omega)]; omega
  have hw2 : IntKind.i64.wrap (((a1 + 1 : Nat) : Int) - 1) = (a1 : Int) := by rw [wrap64 (by omega) (by omega)]; omega
  simp only [hs, hw1, hw2, Int.toNat_natCast]
  have hnx : nextS cs (a1, a2) n = if n ≤ 1 then (0, (a1, a2)) else if a1 < cs.length then ((if n ≤ 256 ∧ (a1 + 1) % 2 = 0 then cs.getD a1 0 else (a2 * 48271 + 29) % 2147483647 / 31 + cs.getD a1 0) % n, (a1 + 1, (a2 * 48271 + 29) % 2147483647)) else (((a2 * 48271 + 29) % 2147483647 / 31) % n, (a1, (a2 * 48271 + 29) % 2147483647)) := rfl
  generalize (a2 * 48271 + 29) % 2147483647 = s at hs1 hs2 hnx ⊢
  have hq : IntKind.i64.wrap (s.tdiv 31) = s / 31 := by rw [Int.tdiv_eq_ediv_of_nonneg hs1, wrap64 (by omega) (by omega)]
  have hq' : s.tdiv 31 = s / 31 := Int.tdiv_eq_ediv_of_nonneg hs1
  have hqs : IntKind.i64.wrap (s / 31) = s / 31 := wrap64 (by omega) (by omega)
  rw [hnx]
  by_cases hn1 : n ≤ 1
  · simp only [if_pos hn1]
    exact ⟨fun _ => by simp, fun h => absurd hn1 h⟩
  · simp only [if_neg hn1]
    refine ⟨fun h => absurd h hn1, fun _ => ⟨by decide, by decide, fun hl1 => ?_, fun hl1 => ?_⟩⟩
    · have hl2 : a1 < cs.length := by omega
      obtain ⟨c, hcc⟩ : ∃ c, cs[a1]? = some c := ⟨_, List.getElem?_eq_getElem hl2⟩
      have hcb := hc c (List.mem_of_getElem? hcc)
      have hg : cs.getD a1 0 = c := by rw [List.getD_eq_getElem?_getD, hcc]; rfl
      have hwc : IntKind.i64.wrap c = c := wrap64 (by omega) (by omega)
      simp only [if_pos hl2, hcc, hg, Option.some.injEq, forall_eq', hwc]
      have hws : IntKind.i64.wrap (s / 31 + c) = s / 31 + c := wrap64 (by omega) (by omega)
      simp only [hq', hqs, hws]
      refine ⟨by omega, by omega, by omega, fun h256 => ⟨by decide, fun he => ⟨by omega, by omega, by omega, by omega, by first | trivial | rfl, ?_⟩, fun he => ⟨by omega, by first | trivial | rfl, ?_⟩⟩, fun h256 => ⟨by omega, by first | trivial | rfl, ?_⟩⟩
      · rw [beq_iff_eq, Int.tmod_eq_emod_of_nonneg (by omega)] at he
        rw [if_pos ⟨h256, by omega⟩, Int.tmod_eq_emod_of_nonneg (by omega)]
      · rw [beq_eq_false_iff_ne, Int.tmod_eq_emod_of_nonneg (by omega)] at he
        rw [if_neg (by omega), Int.tmod_eq_emod_of_nonneg (by omega)]
      · rw [if_neg (by omega), Int.tmod_eq_emod_of_nonneg (by omega)]
    · have hl2 : ¬ a1 < cs.length := by omega
      simp only [if_neg hl2, hq', hqs]
      refine ⟨by omega, by first | trivial | rfl, ?_⟩
      rw [Int.tmod_eq_emod_of_nonneg (by omega)]
end Go.Ab

/- Contracts: picks. -/
set_option linter.unusedSimpArgs false
set_option linter.unusedVariables false
namespace Go.Ab
open Go.Proofs

theorem nextS_seed {cs : List Int} {a : Nat × Int} (hl : cs.length ≤ 100000000000) (ha : seedOK a) (n : Int) : seedOK (nextS cs a n).2 := by
  obtain ⟨h1, h2, h3⟩ := ha
  have hs1 := Int.emod_nonneg (a.2 * 48271 + 29) (show (2147483647 : Int) ≠ 0 by decide)
  have hs2 := Int.emod_lt_of_pos (a.2 * 48271 + 29) (show (0 : Int) < 2147483647 by decide)
  unfold nextS
  split
  · exact ⟨h1, h2, h3⟩
  · split
    · exact ⟨hs1, hs2, by show a.1 + 1 ≤ _; omega⟩
    · exact ⟨hs1, hs2, h3⟩
theorem seed_from (l : List Int) : seedOK (0, fromS l) := ⟨(fromS_bound l).1, (fromS_bound l).2, Nat.zero_le _⟩
/-- One out of a list. -/
def pickS (cs : List Int) (a : Nat × Int) (l : List Int) : Int × (Nat × Int) := (l.getD (nextS cs a l.length).1.toNat 0, (nextS cs a l.length).2)
theorem pickS_mem {cs : List Int} {a : Nat × Int} {l : List Int} (h : 1 ≤ l.length) : (pickS cs a l).1 ∈ l := by
  have hb := nextS_bound (cs := cs) (a := a) (show (1 : Int) ≤ l.length by omega)
  unfold pickS
  rw [List.getD_eq_getElem?_getD, List.getElem?_eq_getElem (show (nextS cs a l.length).1.toNat < l.length by omega)]
  exact List.getElem_mem _
/-- The same, with the source's tree in sight. -/
theorem next_box (cs : List Int) (hc : bytesOK cs) (hl : cs.length ≤ 100000000000) (a : Nat × Int) (ha : seedOK a) (n : Int) (hn : n ≤ 1000000000000) : Fun Try.prog 71 [.box [bytes cs, .i a.1, .i a.2]] [.own 1000000000, .t (.i n)] fun o r => o = [.box [bytes cs, .i (nextS cs a n).2.1, .i (nextS cs a n).2.2]] ∧ r = .i (nextS cs a n).1 := spec_l01Next_ok cs hc hl a ha n hn
theorem pickS_seed {cs : List Int} {a : Nat × Int} (hl : cs.length ≤ 100000000000) (ha : seedOK a) (l : List Int) : seedOK (pickS cs a l).2 := nextS_seed hl ha _
/-- The list handed over as an owned slice (a root that is lent may not stand beside shared data in what comes back). -/
theorem pick_own (cs : List Int) (hc : bytesOK cs) (hl : cs.length ≤ 100000000000) (a : Nat × Int) (ha : seedOK a) (l : List Int) (h1 : 1 ≤ l.length) (h2 : l.length ≤ 1000000) : Fun Try.prog 72 [.box [bytes cs, .i a.1, .i a.2], intsO l] [.own 1000000000, .own 1000000001] fun o r => o = [.box [bytes cs, .i (pickS cs a l).2.1, .i (pickS cs a l).2.2], intsO l] ∧ r = .i (pickS cs a l).1 := by
  have hb := nextS_bound (cs := cs) (a := a) (show (1 : Int) ≤ l.length by omega)
  obtain ⟨x, hx⟩ : ∃ x, l[(nextS cs a l.length).1.toNat]? = some x := ⟨_, List.getElem?_eq_getElem (show (nextS cs a l.length).1.toNat < l.length by omega)⟩
  have hg : (pickS cs a l).1 = x := by rw [pickS, List.getD_eq_getElem?_getD, hx]; rfl
  refine fun_spec_l01Pick (by simp) ?_
  simp -implicitDefEqProofs only [go_sem, evR, ints, rows, rat, rats, c_spec_l01Pick, intsO]
  refine CallW.ref (next_box cs hc hl a ha l.length (by omega)) [1000000000] [] rfl Try.call71 (by simp) ?_ (by simp) ?_ (.inl rfl) ?_
  · simp -implicitDefEqProofs only [srR, Nat.reduceEqDiff, ↓reduceIte, ints, rows, intsO, rowsO]
  · simp -implicitDefEqProofs only [agR, Nat.reduceLeDiff, Nat.reduceSub, vaR, go_sem, ints, rows, rat, rats, ratsO, rtR, intsO, rowsO]
  simp -implicitDefEqProofs only [clR, Nat.reduceLeDiff, go_sem, evR, rat]
  refine ⟨by omega, by omega, by omega, fun y hy => ?_⟩
  rw [hx] at hy; cases hy
  exact ⟨rfl, by rw [hg]⟩
end Go.Ab

/- Contracts: drawn weights. -/
set_option linter.unusedSimpArgs false
set_option linter.unusedVariables false
namespace Go.Ab
open Go.Proofs

end Go.Ab

/- Contracts: drawn weights to be halved. -/
set_option linter.unusedSimpArgs false
set_option linter.unusedVariables false
namespace Go.Ab
open Go.Proofs

end Go.Ab

/- Contracts: small functions of the laws. -/
set_option linter.unusedSimpArgs false
set_option linter.unusedVariables false
namespace Go.Ab
open Go.Proofs

theorem laws_big_ok (cs : List Int) : Pure Try.prog 30 [bytes cs] (.b (decide ((cs.length : Int) > 4096))) := by
  refine fun_laws_big (by simp) ?_
  simp -implicitDefEqProofs only [go_sem, evR, ints, rows, rat, rats, c_laws_big, bytes]
theorem laws_likeInts_ok (a b : List Int) (ha : a.length ≤ 1000000000000) (hb : b.length ≤ 1000000000000) : Pure Try.prog 37 [ints a, ints b] (.b (decide (a = b))) := by
  refine fun_laws_likeInts (by simp) ?_
  simp -implicitDefEqProofs only [c_laws_likeInts, ints, go_sem]
  refine ⟨fun h => ?_, fun h => ?_⟩
  · have : a ≠ b := by rintro rfl; simp at h
    simp [this]
  · have hab : a.length = b.length := by simp at h; omega
    refine SemC.loopR (σ := Nat) (fun i => St.of [(0, .t (ints a)), (1, .t (ints b)), (5, .t (.i i))] []) (fun i => i ≤ a.length ∧ ∀ j, j < i → a[j]? = b[j]?) (fun i => a.length - i) 0 (Weak.of _ [] [] (by simp) (by simp) ?_ trivial) ⟨by simp, fun j hj => by omega⟩ fun i hI R hn hr he => ?_
    · simp -implicitDefEqProofs only [ints, wkR, Nat.reduceEqDiff, ↓reduceIte]
    · simp -implicitDefEqProofs only [ints, go_sem, toNat_cast]
      refine ⟨fun h => ⟨by omega, by omega, by omega, fun c x hx hc => ⟨by omega, by omega, by omega, fun c' y hy hc' => ?_⟩⟩, fun h => he _ _ ?_⟩
      · subst hc hc'
        simp -implicitDefEqProofs only [go_sem]
        refine ⟨fun h1 => hr _ ?_, fun h1 => hn _ (i + 1) (Weak.of _ [] [] (by simp) (by simp) ?_ trivial) ⟨by omega, fun j hj => ?_⟩ (by omega)⟩
        · simp -implicitDefEqProofs only [go_sem]
          have : a ≠ b := by rintro rfl; rw [hx] at hy; cases hy; simp at h1
          simp [this]
        · simp -implicitDefEqProofs only [ints, wkR, Nat.reduceEqDiff, ↓reduceIte, next64 (by omega : i < a.length) ha]
        · rcases Nat.lt_or_ge j i with h | h
          · exact hI.2 j h
          · have : j = i := by omega
            subst this
            rw [hx, hy]; simpa using h1
      · simp -implicitDefEqProofs only [go_sem]
        have : a = b := by
          refine List.ext_getElem? fun j => ?_
          rcases Nat.lt_or_ge j i with h | h
          · exact hI.2 j h
          · rw [List.getElem?_eq_none (by omega), List.getElem?_eq_none (by omega)]
        simp [this]
end Go.Ab

/- Contracts: drawn matrices. -/
set_option linter.unusedSimpArgs false
set_option linter.unusedVariables false
namespace Go.Ab
open Go.Proofs

/-- A drawn matrix is small. -/
def smallM (m : List (List Int)) : Prop := m.length ≤ 6 ∧ ∀ r ∈ m, r.length ≤ 6
theorem smallM_snoc {m : List (List Int)} {r : List Int} (h : ∀ r ∈ m, r.length ≤ 6) (hr : r.length ≤ 6) : ∀ x ∈ m ++ [r], x.length ≤ 6 := by
  intro x hx
  rcases List.mem_append.1 hx with hx | hx
  · exact h x hx
  · simp at hx; rw [hx]; exact hr
set_option maxRecDepth 20000 in
theorem spec_l26Draw_ok (cs : List Int) (hc : bytesOK cs) (hl : cs.length ≤ 100000000000) (a : Nat × Int) (ha : seedOK a) : Fun Try.prog 60 [.box [bytes cs, .i a.1, .i a.2]] [.own 1000000000] fun o r => ∃ x : List (List Int) × (Nat × Int), o = [.box [bytes cs, .i x.2.1, .i x.2.2]] ∧ r = rowsO x.1 ∧ (smallM x.1 ∧ seedOK x.2) := by
  refine Fun.le (Q := fun o r => ∃ x : List (List Int) × (Nat × Int), o = [.box [bytes cs, .i x.2.1, .i x.2.2]] ∧ (r = rowsO x.1 ∨ (r = .v (.slice none 0 0) ∧ x.1 = [])) ∧ (smallM x.1 ∧ seedOK x.2)) ?_ ?_
  · refine fun_spec_l26Draw_h (by simp) ?_
    simp -implicitDefEqProofs only [go_sem, evR, ints, rows, rat, rats, c_spec_l26Draw_h]
    refine CallW.ref (next_box cs hc hl a ha 4 (by omega)) [1000000000] [] rfl Try.call71 (by simp) ?_ (by simp) ?_ (.inl rfl) ?_
    · simp -implicitDefEqProofs only [srR, Nat.reduceEqDiff, ↓reduceIte, ints, rows, intsO, rowsO]
    · simp -implicitDefEqProofs only [agR, Nat.reduceLeDiff, Nat.reduceSub, vaR, go_sem, ints, rows, rat, rats, ratsO, rtR, intsO, rowsO]
    simp -implicitDefEqProofs only [clR, Nat.reduceLeDiff, go_sem, evR, rat]
    have hb1 := nextS_bound (cs := cs) (a := a) (show (1 : Int) ≤ 4 by omega)
    have hs1 := nextS_seed (cs := cs) hl ha 4
    generalize nextS cs a 4 = z at hb1 hs1 ⊢
    obtain ⟨n, a1⟩ := z
    simp only [] at hb1 hs1 ⊢
    refine CallW.ref (next_box cs hc hl a1 hs1 4 (by omega)) [1000000000] [] rfl Try.call71 (by simp) ?_ (by simp) ?_ (.inl rfl) ?_
    · simp -implicitDefEqProofs only [srR, Nat.reduceEqDiff, ↓reduceIte, ints, rows, intsO, rowsO]
    · simp -implicitDefEqProofs only [agR, Nat.reduceLeDiff, Nat.reduceSub, vaR, go_sem, ints, rows, rat, rats, ratsO, rtR, intsO, rowsO]
    simp -implicitDefEqProofs only [clR, Nat.reduceLeDiff, go_sem, evR, rat]
    have hb2 := nextS_bound (cs := cs) (a := a1) (show (1 : Int) ≤ 4 by omega)
    have hs2 := nextS_seed (cs := cs) hl hs1 4
    generalize nextS cs a1 4 = z at hb2 hs2 ⊢
    obtain ⟨n2, a2⟩ := z
    simp only [] at hb2 hs2 ⊢
    rw [wrap64 (n := 1 + n) (by omega) (by omega), wrap64 (n := 1 + n2) (by omega) (by omega)]
    obtain ⟨N, hN⟩ : ∃ N : Nat, 1 + n = (N : Int) := ⟨(1 + n).toNat, by omega⟩
    obtain ⟨M, hM⟩ : ∃ M : Nat, 1 + n2 = (M : Int) := ⟨(1 + n2).toNat, by omega⟩
    rw [hN, hM]
    have hp := pick_own cs hc hl a2 hs2 [2, 5, 20] (by simp) (by simp)
    simp only [intsO, List.map_cons, List.map_nil] at hp
    refine CallW.ref hp [1000000000, 17] [] rfl Try.call72 (by simp) ?_ (by simp) ?_ (.inl rfl) ?_
    · simp -implicitDefEqProofs only [srR, Nat.reduceEqDiff, ↓reduceIte, ints, rows, intsO, rowsO]
    · simp -implicitDefEqProofs only [agR, Nat.reduceLeDiff, Nat.reduceSub, vaR, go_sem, ints, rows, rat, rats, ratsO, rtR, intsO, rowsO]
    simp -implicitDefEqProofs only [clR, Nat.reduceLeDiff, go_sem, evR, rat]
    have hs3 := pickS_seed (cs := cs) hl hs2 [2, 5, 20]
    have hm3 := pickS_mem (cs := cs) (a := a2) (l := [2, 5, 20]) (by simp)
    generalize pickS cs a2 [2, 5, 20] = z at hs3 hm3 ⊢
    obtain ⟨most, a3⟩ := z
    simp only [List.mem_cons, List.not_mem_nil, or_false] at hs3 hm3 ⊢
    refine SemC.loopR (σ := List (List Int) × (Nat × Int)) (fun s => St.of [(0, .own 1000000000), (3, .t (.i N)), (4, .t (.i M)), (5, .t (.i most)), (6, .own 96), (7, .t (.i s.1.length))] [(1000000000, .box [bytes cs, .i s.2.1, .i s.2.2]), (96, .arr 1 (s.1.map intsO))]) (fun s => seedOK s.2 ∧ s.1.length ≤ N ∧ ∀ r ∈ s.1, r.length = M) (fun s => N - s.1.length) ([], a3) (Weak.of _ _ [some 1000000000, some 19] (by simp) (by simp) ?_ ?_) ⟨hs3, by simp, by simp⟩ fun s hI R hn hr he => ?_
    · simp -implicitDefEqProofs only [ints, rows, Nat.reduceBEq, wkR, Nat.reduceEqDiff, ↓reduceIte, wrR, List.length_nil]
    · exact ⟨⟨_, rfl, .refl _⟩, rfl, ⟨_, rfl, .refl _⟩, rfl, trivial⟩
    · obtain ⟨m, b⟩ := s
      obtain ⟨hb, hmN, hmr⟩ := hI
      (try simp only [] at hb hmN hmr)
      simp -implicitDefEqProofs only [go_sem, evR, ints, rows, rat, rats]
      refine ⟨fun h => ?_, fun h => he _ _ ?_⟩
      · refine SemC.loopR (σ := List Int × (Nat × Int)) (fun s => St.of [(0, .own 1000000000), (3, .t (.i N)), (4, .t (.i M)), (5, .t (.i most)), (6, .own 96), (7, .t (.i m.length)), (8, .own 97), (9, .t (.i s.1.length))] [(1000000000, .box [bytes cs, .i s.2.1, .i s.2.2]), (96, .arr 1 (m.map intsO)), (97, .arr 1 (s.1.map T.i))]) (fun s => seedOK s.2 ∧ s.1.length ≤ M) (fun s => M - s.1.length) ([], b) (Weak.of _ _ [some 1000000000, some 96, some 25] (by simp) (by simp) ?_ ?_) ⟨hb, by simp⟩ fun s hI R2 hn2 hr2 he2 => ?_
        · simp -implicitDefEqProofs only [ints, rows, Nat.reduceBEq, wkR, Nat.reduceEqDiff, ↓reduceIte, wrR, List.length_nil]
        · exact ⟨⟨_, rfl, .refl _⟩, rfl, ⟨_, rfl, .refl _⟩, rfl, ⟨_, rfl, .refl _⟩, rfl, trivial⟩
        · obtain ⟨l, c⟩ := s
          obtain ⟨hc1, hlM⟩ := hI
          (try simp only [] at hc1 hlM)
          simp -implicitDefEqProofs only [go_sem, evR, ints, rows, rat, rats]
          refine ⟨fun h1 => ?_, fun h1 => he2 _ _ ?_⟩
          · rw [wrap64 (n := 2 * most) (by omega) (by omega), wrap64 (n := 2 * most + 1) (by omega) (by omega)]
            refine CallW.ref (next_box cs hc hl c hc1 (2 * most + 1) (by omega)) [1000000000] [] rfl Try.call71 (by simp) ?_ (by simp) ?_ (.inl rfl) ?_
            · simp -implicitDefEqProofs only [srR, Nat.reduceEqDiff, ↓reduceIte, ints, rows, intsO, rowsO]
            · simp -implicitDefEqProofs only [agR, Nat.reduceLeDiff, Nat.reduceSub, vaR, go_sem, ints, rows, rat, rats, ratsO, rtR, intsO, rowsO]
            simp -implicitDefEqProofs only [clR, Nat.reduceLeDiff, go_sem, evR, rat]
            have hs4 := nextS_seed (cs := cs) hl hc1 (2 * most + 1)
            generalize nextS cs c (2 * most + 1) = z at hs4 ⊢
            obtain ⟨x, c2⟩ := z
            simp only [] at hs4 ⊢
            refine ⟨by omega, hn2 _ (l ++ [IntKind.i64.wrap (x - most)], c2) (Weak.of _ _ [some 1000000000, some 96, some 40] (by simp) (by simp) ?_ ?_) ⟨hs4, by simp; omega⟩ (by simp only [List.length_append, List.length_cons, List.length_nil]; omega)⟩
            · simp -implicitDefEqProofs only [ints, rows, Nat.reduceBEq, wkR, Nat.reduceEqDiff, ↓reduceIte, wrR, next64 (by omega : l.length < M) (by omega), List.length_append, List.length_cons, List.length_nil]
            · refine ⟨⟨_, rfl, .refl _⟩, rfl, ⟨_, rfl, .refl _⟩, rfl, ⟨_, rfl, ?_⟩, rfl, trivial⟩
              rw [List.map_append]; exact .refl _
          · simp -implicitDefEqProofs only [go_sem, evR, ints, rows, rat, rats]
            refine ⟨by omega, hn _ (m ++ [l], c) (Weak.of _ _ [some 1000000000, some 44] (by simp) (by simp) ?_ ?_) ⟨hc1, by simp; omega, ?_⟩ (by simp only [List.length_append, List.length_cons, List.length_nil]; omega)⟩
            · simp -implicitDefEqProofs only [ints, rows, Nat.reduceBEq, wkR, Nat.reduceEqDiff, ↓reduceIte, wrR, next64 (by omega : m.length < N) (by omega), List.length_append, List.length_cons, List.length_nil]
            · refine ⟨⟨_, rfl, .refl _⟩, rfl, ⟨_, rfl, ?_⟩, rfl, trivial⟩
              rw [List.map_append]; exact .refl _
            · intro r hr'
              rcases List.mem_append.1 hr' with hr' | hr'
              · exact hmr r hr'
              · simp at hr'; rw [hr']; omega
      · simp -implicitDefEqProofs only [go_sem, evR, ints, rows, rat, rats]
        have hmN' : m.length = N := by omega
        have hsm : smallM m := ⟨by omega, fun r hr' => by rw [hmr r hr']; omega⟩
        refine CallW.ref (next_box cs hc hl b hb 24 (by omega)) [1000000000] [] rfl Try.call71 (by simp) ?_ (by simp) ?_ (.inl rfl) ?_
        · simp -implicitDefEqProofs only [srR, Nat.reduceEqDiff, ↓reduceIte, ints, rows, intsO, rowsO]
        · simp -implicitDefEqProofs only [agR, Nat.reduceLeDiff, Nat.reduceSub, vaR, go_sem, ints, rows, rat, rats, ratsO, rtR, intsO, rowsO]
        simp -implicitDefEqProofs only [clR, Nat.reduceLeDiff, go_sem, evR, rat]
        have hs4 := nextS_seed (cs := cs) hl hb 24
        generalize nextS cs b 24 = z at hs4 ⊢
        obtain ⟨q, b2⟩ := z
        simp only [] at hs4 ⊢
        have hN1 : 1 ≤ m.length := by omega
        have hfit : ∀ (m' : List (List Int)), m'.length ≤ 6 → (∀ r ∈ m', r.length ≤ 6) → smallM m' := fun m' h1 h2 => ⟨h1, h2⟩
        refine ⟨fun hq => ?_, fun hq => ?_⟩
        · obtain ⟨r0, m', rfl⟩ : ∃ r0 m', m = r0 :: m' := by
            cases m with
            | nil => simp at hN1
            | cons r0 m' => exact ⟨r0, m', rfl⟩
          have hr0 : r0.length = M := hmr r0 (by simp)
          refine ⟨_, Weak.open 96 0 98 rfl rfl rfl (by decide) rfl, ?_⟩
          simp -implicitDefEqProofs only [go_sem, evR, ints, rows, rat, rats, List.lookup_cons, beq_self_eq_true]
          have hp := pick_own cs hc hl b2 hs4 [20, 21, -21] (by simp) (by simp)
          simp only [intsO, List.map_cons, List.map_nil] at hp
          refine ⟨by omega, ?_⟩
          refine CallH.ref hp [1000000000, 53] [] rfl Try.call72 (by simp) ?_ (by simp) (fun e R' hR => ?_) (.inl rfl) ?_
          · simp -implicitDefEqProofs only [srR, Nat.reduceEqDiff, ↓reduceIte, ints, rows, intsO, rowsO]
          · simp -implicitDefEqProofs only [agR, Nat.reduceLeDiff, Nat.reduceSub, vaR, go_sem, ints, rows, rat, rats, ratsO, rtR, intsO, rowsO]
          simp -implicitDefEqProofs only [clR, Nat.reduceLeDiff, go_sem, evR, rat]
          have hs5 := pickS_seed (cs := cs) hl hs4 [20, 21, -21]
          refine ⟨?_, ((frameOK.refl _ _ _).upd _ (.inl (by simp))).upd _ (.inl (by simp))⟩
          simp -implicitDefEqProofs only [go_sem, evR, ints, rows, rat, rats, intsO]
          refine ⟨by omega, by omega, ?_⟩
          refine ⟨_, Weak.join2 Try.prog tyOne (sl 50) (sl 51) rfl rfl rfl rfl (by decide) (by simp), ?_⟩
          simp -implicitDefEqProofs only [go_sem, evR, ints, rows, rat, rats]
          refine ⟨(r0.set 0 (pickS cs b2 [20, 21, -21]).1 :: m', (pickS cs b2 [20, 21, -21]).2), rfl, .inl ?_, ⟨by simpa using hsm.1, fun r hr' => ?_⟩, hs5⟩
          · rw [rowsO, List.map_cons, intsO, List.map_set]
          · rcases List.mem_cons.1 hr' with rfl | hr'
            · rw [List.length_set, hr0]; omega
            · exact hsm.2 r (by simp [hr'])
        · refine ⟨fun hq1 => ⟨by omega, _, Weak.refl _ _, ?_⟩, fun hq1 => ⟨fun hq2 => ⟨([], b2), rfl, .inr rfl, ⟨by simp, by simp⟩, hs4⟩, fun hq2 => ⟨_, Weak.refl _ _, ?_⟩⟩⟩
          · simp -implicitDefEqProofs only [go_sem, evR, ints, rows, rat, rats]
            refine ⟨(m ++ [[1, 2, 3, 4, 5]], b2), rfl, .inl ?_, ⟨by simp; omega, smallM_snoc (fun r hr' => by rw [hmr r hr']; omega) (by simp)⟩, hs4⟩
            rw [rowsO, List.map_append]; rfl
          · simp -implicitDefEqProofs only [go_sem, evR, ints, rows, rat, rats]
            exact ⟨(m, b2), rfl, .inl rfl, hsm, hs4⟩
  · rintro o r ⟨x, rfl, rfl | ⟨rfl, hx⟩, h⟩
    · exact ⟨_, .refl _, x, rfl, rfl, h⟩
    · refine ⟨_, .nilArr 1, x, rfl, ?_, h⟩
      rw [hx]; rfl
end Go.Ab

/- Contracts: drawn square matrices; likeLists; the law FnAdjugates. -/
set_option linter.unusedSimpArgs false
set_option linter.unusedVariables false
namespace Go.Ab
open Go.Proofs

def numsI (n : Nat) : List Int := (List.range n).map Int.ofNat
theorem numsI_succ (n : Nat) : numsI (n + 1) = numsI n ++ [(n : Int)] := by simp [numsI, List.range_succ]
theorem numsI_length (n : Nat) : (numsI n).length = n := by simp [numsI]
theorem numsI_get {n i : Nat} (h : i < n) : (numsI n)[i]? = some (i : Int) := by simp [numsI, h]
theorem spec_l27Numbers_ok (n : Nat) (hn : n ≤ 1000000) : Fun Try.prog 81 [] [.t (.i n)] fun o r => o = [] ∧ r = intsO (numsI n) := by
  refine fun_spec_l27Numbers (by simp) ?_
  simp -implicitDefEqProofs only [go_sem, evR, ints, rows, rat, rats, c_spec_l27Numbers]
  refine SemC.loopR (σ := Nat) (fun i => St.of [(0, .t (.i n)), (3, .own 96), (4, .t (.i i))] [(96, .arr 1 ((numsI i).map T.i))]) (fun i => i ≤ n) (fun i => n - i) 0 (Weak.of _ _ [some 5] (by simp) (by simp) ?_ ?_) (by simp) fun i hi R hn' hr he => ?_
  · simp -implicitDefEqProofs only [ints, rows, Nat.reduceBEq, wkR, Nat.reduceEqDiff, ↓reduceIte, wrR]
  · exact ⟨⟨_, rfl, .refl _⟩, rfl, trivial⟩
  · simp -implicitDefEqProofs only [go_sem, evR, ints, rows, rat, rats]
    refine ⟨fun h => ⟨by rw [numsI_length]; omega, hn' _ (i + 1) (Weak.of _ _ [some 14] (by simp) (by simp) ?_ ?_) (by omega) (by omega)⟩, fun h => he _ _ ?_⟩
    · simp -implicitDefEqProofs only [ints, rows, Nat.reduceBEq, wkR, Nat.reduceEqDiff, ↓reduceIte, wrR, next64 (by omega : i < n) (by omega)]
    · refine ⟨⟨_, rfl, ?_⟩, rfl, trivial⟩
      rw [numsI_succ, List.map_append]; exact .refl _
    · simp -implicitDefEqProofs only [go_sem, evR, ints, rows, rat, rats]
      have : i = n := by omega
      rw [this]; rfl
/-- A part of a matrix. -/
def partM (m : List (List Int)) (R C : List Int) : List (List Int) := R.map fun i => C.map fun j => (m.getD i.toNat []).getD j.toNat 0
theorem partM_length (m : List (List Int)) (R C : List Int) : (partM m R C).length = R.length := by simp [partM]
theorem spec_l27Part_ok (m : List (List Int)) (R C : List Int) (hR : ∀ x ∈ R, 0 ≤ x ∧ x < m.length) (hC : ∀ x ∈ C, 0 ≤ x ∧ ∀ r ∈ m, x < r.length) (hRl : R.length ≤ 1000000) (hCl : C.length ≤ 1000000) : Fun Try.prog 104 [] [.t (rows m), .t (ints R), .t (ints C)] fun o r => o = [] ∧ r = rowsO (partM m R C) := by
  refine fun_spec_l27Part (by simp) ?_
  simp -implicitDefEqProofs only [go_sem, evR, ints, rows, rat, rats, c_spec_l27Part]
  refine SemC.loopR (σ := Nat) (fun i => St.of [(0, .t (rows m)), (1, .t (ints R)), (2, .t (ints C)), (7, .own 96), (8, .t (.i i))] [(96, .arr 1 ((partM m (R.take i) C).map intsO))]) (fun i => i ≤ R.length) (fun i => R.length - i) 0 (Weak.of _ _ [some 11] (by simp) (by simp) ?_ ?_) (by simp) fun i hi Q hn hr he => ?_
  · simp -implicitDefEqProofs only [ints, rows, Nat.reduceBEq, wkR, Nat.reduceEqDiff, ↓reduceIte, wrR]
  · exact ⟨⟨_, rfl, .refl _⟩, rfl, trivial⟩
  · have hpl := partM_length m (R.take i) C
    rw [List.length_take, Nat.min_eq_left hi] at hpl
    simp -implicitDefEqProofs only [go_sem, evR, ints, rows, rat, rats]
    refine ⟨fun h => ?_, fun h => he _ _ ?_⟩
    · obtain ⟨ri, hri⟩ : ∃ x, R[i]? = some x := ⟨_, List.getElem?_eq_getElem (by omega)⟩
      have hrb := hR ri (List.mem_of_getElem? hri)
      obtain ⟨row, hrow⟩ : ∃ x, m[ri.toNat]? = some x := ⟨_, List.getElem?_eq_getElem (by omega)⟩
      have hgd : m.getD ri.toNat [] = row := by rw [List.getD_eq_getElem?_getD, hrow]; rfl
      refine SemC.loopR (σ := Nat) (fun k => St.of [(0, .t (rows m)), (1, .t (ints R)), (2, .t (ints C)), (7, .own 96), (8, .t (.i i)), (9, .own 97), (10, .t (.i k))] [(96, .arr 1 ((partM m (R.take i) C).map intsO)), (97, .arr 1 (((C.take k).map fun j : Int => row.getD j.toNat 0).map T.i))]) (fun k => k ≤ C.length) (fun k => C.length - k) 0 (Weak.of _ _ [some 96, some 18] (by simp) (by simp) ?_ ?_) (by simp) fun k hk Q2 hn2 hr2 he2 => ?_
      · simp -implicitDefEqProofs only [ints, rows, Nat.reduceBEq, wkR, Nat.reduceEqDiff, ↓reduceIte, wrR]
      · exact ⟨⟨_, rfl, .refl _⟩, rfl, ⟨_, rfl, .refl _⟩, rfl, trivial⟩
      · simp -implicitDefEqProofs only [go_sem, evR, ints, rows, rat, rats]
        refine ⟨fun h1 => ?_, fun h1 => he2 _ _ ?_⟩
        · obtain ⟨cj, hcj⟩ : ∃ x, C[k]? = some x := ⟨_, List.getElem?_eq_getElem (by omega)⟩
          have hcb := hC cj (List.mem_of_getElem? hcj)
          have hcl := hcb.2 row (List.mem_of_getElem? hrow)
          obtain ⟨x, hx⟩ : ∃ x, row[cj.toNat]? = some x := ⟨_, List.getElem?_eq_getElem (by omega)⟩
          have hxd : row.getD cj.toNat 0 = x := by rw [List.getD_eq_getElem?_getD, hx]; rfl
          simp only [hri, hrow, hcj, hx, Option.some.injEq, forall_eq']
          refine ⟨by omega, by omega, by omega, by omega, by omega, by omega, by omega, by omega, by omega, by omega, by omega, by omega, by rw [List.length_take]; omega, hn2 _ (k + 1) (Weak.of _ _ [some 96, some 40] (by simp) (by simp) ?_ ?_) (by omega) (by omega)⟩
          · simp -implicitDefEqProofs only [ints, rows, Nat.reduceBEq, wkR, Nat.reduceEqDiff, ↓reduceIte, wrR, next64 (by omega : k < C.length) (by omega)]
          · refine ⟨⟨_, rfl, .refl _⟩, rfl, ⟨_, rfl, ?_⟩, rfl, trivial⟩
            rw [take_snoc hcj]
            simp only [List.map_append, List.map_cons, List.map_nil, hxd]
            exact .refl _
        · simp -implicitDefEqProofs only [go_sem, evR, ints, rows, rat, rats]
          refine ⟨by rw [hpl]; omega, hn _ (i + 1) (Weak.of _ _ [some 44] (by simp) (by simp) ?_ ?_) (by omega) (by omega)⟩
          · simp -implicitDefEqProofs only [ints, rows, Nat.reduceBEq, wkR, Nat.reduceEqDiff, ↓reduceIte, wrR, next64 (by omega : i < R.length) (by omega)]
          · refine ⟨⟨_, rfl, ?_⟩, rfl, trivial⟩
            rw [take_snoc hri]
            have hk' : C.take k = C := List.take_of_length_le (by omega)
            simp only [partM, List.map_append, List.map_cons, List.map_nil, hk', hgd, intsO]
            exact .refl _
    · simp -implicitDefEqProofs only [go_sem, evR, ints, rows, rat, rats]
      rw [List.take_of_length_le (by omega)]; rfl

end Go.Ab

/- Contracts: what kernels are made of. -/
set_option linter.unusedSimpArgs false
set_option linter.unusedVariables false
namespace Go.Ab
open Go.Proofs

/-- Some elements of a list, and some rows and columns of a matrix. -/
def pickL (l : List Int) (c : List Int) : List Int := c.map fun j => l.getD j.toNat 0
def sub (m : List (List Int)) (r c : List Int) : List (List Int) := r.map fun i => pickL (m.getD i.toNat []) c
theorem numsI_run (n : Nat) : numsI n = run 0 n := by
  apply List.ext_getElem?
  intro i
  rcases Nat.lt_or_ge i n with h | h
  · rw [numsI_get h, run_get 0 h, Int.zero_add]
  · rw [List.getElem?_eq_none (by rw [numsI_length]; exact h), List.getElem?_eq_none (by rw [run_length]; exact h)]
/-- A ratio of two integers, the second one not 0. -/
def sgR (n d : Int) : (Int × Int) × Int := if d < 0 then redR (-n) (-d) else redR n d
section
attribute [-go_sem] load1C load1V fldC lenC idxC loadNV
set_option maxRecDepth 20000 in
theorem impl_chosen_ok (l c : List Int) (hc : ∀ j ∈ c, 0 ≤ j ∧ j < l.length) (hl : c.length ≤ 1000000) : Fun Try.prog 99 [] [.t (ints l), .t (ints c)] fun o r => o = [] ∧ r = intsO (pickL l c) := by
  refine fun_impl_chosen (by simp) ?_
  simp -implicitDefEqProofs only [go_sem, evR, ints, rows, rat, rats, c_impl_chosen]
  refine ⟨by omega, by omega, ?_⟩
  refine SemC.loopR (σ := Nat) (fun i => St.of [(0, .t (ints l)), (5, .own 10), (11, .t (ints c)), (12, .t (.i c.length)), (13, .t (.i i))] [(10, .arr 1 (filled c (fun j => T.i (l.getD j.toNat 0)) (.i 0) i))]) (fun i => i ≤ c.length) (fun i => c.length - i) 0 (Weak.of _ _ [some 10] (by simp) (by simp) ?_ ?_) (by omega) fun i hi R hn hr he => ?_
  · simp -implicitDefEqProofs only [ints, rows, Nat.reduceBEq, wkR, Nat.reduceEqDiff, ↓reduceIte, wrR]
  · exact ⟨⟨_, rfl, by rw [made_one, filled_zero]; exact .refl _⟩, rfl, trivial⟩
  · have hfl := filled_length c (fun j => T.i (l.getD j.toNat 0)) (.i 0) i hi
    rcases Nat.lt_or_ge i c.length with h9 | h9
    · obtain ⟨j, hj⟩ : ∃ j, c[i]? = some j := ⟨_, List.getElem?_eq_getElem h9⟩
      have hjb := hc j (List.mem_of_getElem? hj)
      obtain ⟨y, hy⟩ : ∃ y, l[j.toNat]? = some y := ⟨_, List.getElem?_eq_getElem (by omega)⟩
      have hyd : l.getD j.toNat 0 = y := by rw [List.getD_eq_getElem?_getD, hy]; rfl
      simp -implicitDefEqProofs only [go_sem, evR, ints, rows, rat, rats, hj, hy, hfl, decide_eq_true (show (i : Int) < (c.length : Int) by omega)]
      refine ⟨by omega, by omega, by omega, by omega, by omega, by omega, by omega, by omega, by omega, hn _ (i + 1) (Weak.of _ _ [some 10] (by simp) (by simp) ?_ ?_) (by omega) (by omega)⟩
      · simp -implicitDefEqProofs only [ints, rows, Nat.reduceBEq, wkR, Nat.reduceEqDiff, ↓reduceIte, wrR, next64 h9 (by omega)]
      · refine ⟨⟨_, rfl, ?_⟩, rfl, trivial⟩
        rw [← filled_set hj, hyd]; exact .refl _
    · simp -implicitDefEqProofs only [go_sem, evR, ints, rows, rat, rats, decide_eq_false (show ¬ (i : Int) < (c.length : Int) by omega)]
      refine he _ _ ?_
      simp -implicitDefEqProofs only [go_sem, evR, ints, rows, rat, rats]
      rw [show i = c.length by omega, filled_all, intsO, pickL, List.map_map]; rfl
set_option maxRecDepth 20000 in
theorem impl_indicesOf_ok (c : List Int) (hl : c.length ≤ 1000000) : Fun Try.prog 79 [] [.t (ints c)] fun o r => o = [] ∧ r = intsO c := by
  refine fun_impl_indicesOf (by simp) ?_
  simp -implicitDefEqProofs only [go_sem, evR, ints, rows, rat, rats, c_impl_indicesOf]
  refine ⟨by omega, by omega, ?_⟩
  refine SemC.loopR (σ := Nat) (fun i => St.of [(3, .own 8), (9, .t (ints c)), (10, .t (.i c.length)), (11, .t (.i i))] [(8, .arr 1 (filled c T.i (.i 0) i))]) (fun i => i ≤ c.length) (fun i => c.length - i) 0 (Weak.of _ _ [some 8] (by simp) (by simp) ?_ ?_) (by omega) fun i hi R hn hr he => ?_
  · simp -implicitDefEqProofs only [ints, rows, Nat.reduceBEq, wkR, Nat.reduceEqDiff, ↓reduceIte, wrR]
  · exact ⟨⟨_, rfl, by rw [made_one, filled_zero]; exact .refl _⟩, rfl, trivial⟩
  · have hfl := filled_length c T.i (.i 0) i hi
    rcases Nat.lt_or_ge i c.length with h9 | h9
    · obtain ⟨j, hj⟩ : ∃ j, c[i]? = some j := ⟨_, List.getElem?_eq_getElem h9⟩
      simp -implicitDefEqProofs only [go_sem, evR, ints, rows, rat, rats, hj, hfl, decide_eq_true (show (i : Int) < (c.length : Int) by omega)]
      refine ⟨by omega, by omega, by omega, by omega, by omega, by omega, hn _ (i + 1) (Weak.of _ _ [some 8] (by simp) (by simp) ?_ ?_) (by omega) (by omega)⟩
      · simp -implicitDefEqProofs only [ints, rows, Nat.reduceBEq, wkR, Nat.reduceEqDiff, ↓reduceIte, wrR, next64 h9 (by omega)]
      · refine ⟨⟨_, rfl, ?_⟩, rfl, trivial⟩
        rw [← filled_set hj]; exact .refl _
    · simp -implicitDefEqProofs only [go_sem, evR, ints, rows, rat, rats, decide_eq_false (show ¬ (i : Int) < (c.length : Int) by omega)]
      refine he _ _ ?_
      simp -implicitDefEqProofs only [go_sem, evR, ints, rows, rat, rats]
      rw [show i = c.length by omega, filled_all, intsO]
theorem impl_signedRatio_ok (n d : Int) (n0 : -9000000000000000000 < n) (n1 : n < 9000000000000000000) (d0 : d ≠ 0) (d1 : -9000000000000000000 < d) (d2 : d < 9000000000000000000) : Pure Try.prog 102 [.i n, .i d] (.tup [rat (sgR n d).1, .b ((sgR n d).2 == 0)]) := by
  refine fun_impl_signedRatio (by simp) ?_
  simp -implicitDefEqProofs only [go_sem, evR, ints, rows, rat, rats, c_impl_signedRatio]
  refine ⟨fun h => ?_, fun h => ?_⟩
  · have h : d < 0 := by simpa using h
    rw [wrap64 (n := 0 - n) (by omega) (by omega), wrap64 (n := 0 - d) (by omega) (by omega), sgR, if_pos h, show 0 - n = -n by omega, show 0 - d = -d by omega]
    refine CallW.res (impl_reduced_ok (-n) (-d) (by omega) (by omega) (by omega) (by omega)) [] rfl Try.call119 ?_ (.inl rfl) ?_
    · simp -implicitDefEqProofs only [agR, Nat.reduceLeDiff, Nat.reduceSub, vaR, go_sem, ints, rows, rat, rats, ratsO, rtR, intsO, rowsO]
    simp -implicitDefEqProofs only [clR, Nat.reduceLeDiff, go_sem, evR, rat, redT, rat]
  · have h : ¬ d < 0 := by simpa using h
    rw [sgR, if_neg h]
    refine CallW.res (impl_reduced_ok n d (by omega) (by omega) (by omega) (by omega)) [] rfl Try.call119 ?_ (.inl rfl) ?_
    · simp -implicitDefEqProofs only [agR, Nat.reduceLeDiff, Nat.reduceSub, vaR, go_sem, ints, rows, rat, rats, ratsO, rtR, intsO, rowsO]
    simp -implicitDefEqProofs only [clR, Nat.reduceLeDiff, go_sem, evR, rat, redT, rat]
/-- The part of a matrix, while it is laid. -/
theorem sub_snoc (m : List (List Int)) {r : List Int} {c : List Int} {i : Nat} {x : Int} (h : r[i]? = some x) : sub m (r.take (i + 1)) c = sub m (r.take i) c ++ [pickL (m.getD x.toNat []) c] := by
  rw [sub, take_snoc h, List.map_append]; rfl
/-- The rows of choices that begin with one of the first i numbers. -/
def combI (d k : Nat) (lo : Int) (i : Nat) : List (List Int) := (List.range i).flatMap fun j => (comb (d - j - 1) k (lo + j + 1)).map ((lo + j) :: ·)
theorem combI_succ (d k : Nat) (lo : Int) (i : Nat) : combI d k lo (i + 1) = combI d k lo i ++ (comb (d - i - 1) k (lo + i + 1)).map ((lo + i) :: ·) := by
  rw [combI, List.range_succ, List.flatMap_append]; simp [combI]
theorem combI_shift (d k : Nat) (lo : Int) : ∀ i, combI (d + 1) k lo (i + 1) = (comb d k (lo + 1)).map (lo :: ·) ++ combI d k (lo + 1) i
  | 0 => by simp [combI]
  | i + 1 => by
    rw [combI_succ, combI_shift d k lo i, combI_succ d k (lo + 1) i, List.append_assoc]
    congr 2
    rw [show d + 1 - (i + 1) - 1 = d - i - 1 by omega, show lo + ((i + 1 : Nat) : Int) = lo + 1 + i by omega]
theorem comb_I : ∀ (d k : Nat) (lo : Int), comb d (k + 1) lo = combI d k lo d
  | 0, k, lo => rfl
  | d + 1, k, lo => by rw [comb, comb_I d k (lo + 1), combI_shift]
theorem run_drop : ∀ (d : Nat) (lo : Int) (i : Nat), (run lo d).drop i = run (lo + i) (d - i)
  | d, lo, 0 => by simp
  | 0, lo, i + 1 => by simp [run]
  | d + 1, lo, i + 1 => by
    rw [run, List.drop_succ_cons, run_drop d (lo + 1) i, show d + 1 - (i + 1) = d - i by omega, show lo + 1 + (i : Int) = lo + ((i + 1 : Nat) : Int) by omega]
theorem comb_count : ∀ (d k : Nat) (lo : Int), (comb d k lo).length ≤ 2 ^ d
  | d, 0, lo => by
    have : 1 ≤ 2 ^ d := Nat.one_le_two_pow
    cases d <;> simp [comb, this]
  | 0, k + 1, lo => by simp [comb]
  | d + 1, k + 1, lo => by
    have h1 := comb_count d k (lo + 1)
    have h2 := comb_count d (k + 1) (lo + 1)
    rw [comb, List.length_append, List.length_map]; omega
theorem comb_zero (d : Nat) (lo : Int) : comb d 0 lo = [[]] := by cases d <;> rfl
theorem combI_count (d k : Nat) (lo : Int) : ∀ i, i ≤ d → (combI d k lo i).length + 2 ^ (d - i) ≤ 2 ^ d
  | 0, _ => by simp [combI]
  | i + 1, h => by
    have h1 := combI_count d k lo i (by omega)
    have h2 := comb_count (d - i - 1) k (lo + i + 1)
    rw [combI_succ, List.length_append, List.length_map]
    rw [show d - i = (d - i - 1) + 1 by omega, Nat.pow_succ] at h1
    rw [show d - (i + 1) = d - i - 1 by omega]; omega
theorem combI_stop {d k : Nat} {lo : Int} : ∀ (n i : Nat), i + n = d → d < i + (k + 1) → combI d k lo i = combI d k lo d
  | 0, i, h, _ => by rw [show i = d by omega]
  | n + 1, i, h, h2 => by
    rw [← combI_stop n (i + 1) (by omega) (by omega), combI_succ, comb_nil (by omega)]; simp
end
end Go.Ab
