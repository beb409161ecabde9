/- The program's IsMatrix returns what the reference's returns, for all arguments: the law FnExactIsMatrix returns true for every matrix of integers. No conditions. -/
import Derived.Test.YtbilpaghpgomeaaRows
import Derived.Test.YtbilpaghpgomeaaBr2
import Derived.Test.YtbilpaghpgomeaaFi
set_option linter.unusedSimpArgs false
set_option linter.unusedVariables false
namespace Go.Proofs.Ytbilpaghpgomeaa
open Go.ChangeShapes Go.WideShapes Go.ChangeAt Go.RowKit Go.Ab

def tyRows : Ty := .sl 1 (.sl 1 (.int .i64))
theorem flat_ints : ∀ {xs : List (List T)}, (∀ x ∈ xs, x.length = 1 ∧ (Ty.int .i64).wt x) → ∃ l : List Int, xs.flatten = l.map T.i ∧ l.length = xs.length
  | [], _ => ⟨[], rfl, rfl⟩
  | x :: xs, h => by
    obtain ⟨l, hl, hlen⟩ := flat_ints (xs := xs) fun y hy => h y (by simp [hy])
    obtain ⟨_, n, rfl, _⟩ := h x (by simp)
    exact ⟨n :: l, by simp [hl], by simp [hlen]⟩
theorem wt_ints {x : T} (h : (Ty.sl 1 (.int .i64)).wt [x]) : ∃ l : List Int, x = ints l ∧ l.length ≤ 9223372036854775807 := by
  obtain ⟨xs, hx, hlen, hall⟩ := h
  obtain ⟨l, hl, hll⟩ := flat_ints hall
  simp only [List.cons.injEq, and_true] at hx
  exact ⟨l, by rw [hx, hl]; rfl, by rw [hll]; exact hlen⟩
theorem flat_rows : ∀ {xs : List (List T)}, (∀ x ∈ xs, x.length = 1 ∧ (Ty.sl 1 (.int .i64)).wt x) → ∃ m : List (List Int), xs.flatten = m.map ints ∧ m.length = xs.length ∧ ∀ r ∈ m, r.length ≤ 9223372036854775807
  | [], _ => ⟨[], rfl, rfl, by simp⟩
  | x :: xs, h => by
    obtain ⟨m, hm, hlen, hr⟩ := flat_rows (xs := xs) fun y hy => h y (by simp [hy])
    obtain ⟨h1, hw⟩ := h x (by simp)
    match x, h1 with
    | [y], _ =>
      obtain ⟨l, rfl, hl⟩ := wt_ints hw
      refine ⟨l :: m, by simp [hm], by simp [hlen], fun r hr' => ?_⟩
      rcases List.mem_cons.1 hr' with rfl | h'
      · exact hl
      · exact hr r h'
theorem wt_rows {x : T} (h : tyRows.wt [x]) : ∃ m : List (List Int), x = rows m ∧ m.length ≤ 9223372036854775807 ∧ ∀ r ∈ m, r.length ≤ 9223372036854775807 := by
  obtain ⟨xs, hx, hlen, hall⟩ := h
  obtain ⟨m, hm, hml, hr⟩ := flat_rows hall
  simp only [List.cons.injEq, and_true] at hx
  exact ⟨m, by rw [hx, hm]; rfl, by rw [hml]; exact hlen, hr⟩

namespace fnExactIsMatrix
theorem said : ∀ xs, wtL [tyRows] xs → Pure Try.prog 3 xs (.b true)
  | [x], h => by
    obtain ⟨m, rfl, hm, hr⟩ := wt_rows h.1
    exact laws_FnExactIsMatrix_ok m (by omega) (fun r h => by have := hr r h; omega)
  | [], h => h.elim
  | _ :: _ :: _, h => h.2.elim

set_option maxRecDepth 100000 in
theorem lifted (os : Os) (started : os.Started) (H : Type) (enc : TypeId × Value → H) :
    ReturnsInHanded {} Try.checked os 3 .any (Rows.fnExactIsMatrixSpec.pre6 enc Try.prog Try.f3 Rows.fnExactIsMatrixRow.domain false) (Rows.fnExactIsMatrixSpec.post enc Try.prog Try.f3 false true false false) := by
  refine returnsInHanded_of_change (C := Try.checked) (by kernel_rfl) started (by kernel_rfl) Try.func3
    (ChangeSpec.witness6 (enc := enc) (C := Try.checked) false ⟨#[], #[.slice none 0 0], []⟩ 8 (by kernel_rfl) (by kernel_rfl) (by kernel_rfl) (by kernel_rfl)) ?_
  intro W base args ds gs before hval hW _ _
  refine law_contract (tys := [tyRows]) (by kernel_rfl) (by kernel_rfl) rfl (by kernel_rfl) rfl (fun ds h => ?_) said W base args ds gs before hval hW
  match ds, h with
  | [d], _ => rfl

theorem over : Rows.fnExactIsMatrixRow.holds Try.pinned (OpenSpec.ofChange Rows.fnExactIsMatrixSpec) :=
  OpenClaim.holds_of_wide 3 Try.f3 rfl rfl rfl rfl rfl rfl rfl ⟨rfl, rfl, rfl, rfl, rfl⟩ rfl rfl rfl rfl rfl (by kernel_rfl) Try.func3 (by kernel_rfl)
    (of_decide_eq_true (by kernel_rfl)) (by unfold Func.isWrapper; first | (rw [if_pos (by decide +kernel)]; kernel_rfl) | (rw [if_neg (by decide +kernel)]; exact ⟨rfl, rfl⟩))
    (fun os started H enc _ => lifted os started H enc)
end fnExactIsMatrix

theorem fnExactIsMatrix_holds : Rows.FnExactIsMatrixSaid := fnExactIsMatrix.over
#print axioms fnExactIsMatrix_holds
end Go.Proofs.Ytbilpaghpgomeaa
