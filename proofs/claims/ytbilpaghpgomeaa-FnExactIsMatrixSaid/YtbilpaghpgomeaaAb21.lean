/- The abstract layer, part 21: rows and matrices as data; small facts for the walks. -/
import Derived.Test.YtbilpaghpgomeaaAb25
set_option linter.unusedSimpArgs false
set_option linter.unusedVariables false
namespace Go.Ab

/-- A row that is only read, and a matrix. -/
def ints (l : List Int) : T := .sh 1 (l.map T.i)
def rows (m : List (List Int)) : T := .sh 1 (m.map ints)
/-- The same, owned. -/
def intsO (l : List Int) : T := .arr 1 (l.map T.i)
def rowsO (m : List (List Int)) : T := .arr 1 (m.map intsO)

theorem wrap64 {n : Int} (h : -9223372036854775808 ≤ n) (h' : n < 9223372036854775808) : IntKind.i64.wrap n = n := by
  simp [IntKind.wrap, IntKind.bits, IntKind.signed]
  omega
theorem next64 {i n : Nat} (h : i < n) (hn : n ≤ 1000000000000) : IntKind.i64.wrap ((i : Int) + 1) = ((i + 1 : Nat) : Int) := by
  rw [wrap64 (by omega) (by omega)]; rfl
theorem vt_self (S : St) (bor : List Nat) (x : T) : vt S bor x (.t x) = True := by
  cases x <;> simp [vt, vb, maT]
theorem toNat_cast (i : Nat) : (i : Int).toNat = i := rfl
theorem take_succ_all {α : Type} {p : α → Prop} {l : List α} {i : Nat} {x : α} (hx : l[i]? = some x) (h : ∀ y ∈ l.take i, p y) (hp : p x) : ∀ y ∈ l.take (i + 1), p y := by
  intro y hy
  rw [List.take_add_one, hx] at hy
  simp only [Option.toList_some, List.mem_append, List.mem_singleton] at hy
  rcases hy with hy | rfl
  · exact h y hy
  · exact hp
theorem intsO_noSh (l : List Int) : (intsO l).noSh := by
  simp only [intsO, T.noSh]
  rw [T.noShL_iff]
  intro t ht
  obtain ⟨x, _, rfl⟩ := List.mem_map.1 ht
  simp [T.noSh]

section
variable {P : Program} {n : Nat} {S : St}
/-- A call with a determined result. -/
theorem CallW.res {d : Option Nat} {fo : Operand} {ops : List Operand} {K : St → Prop} {f : FuncId} {cap : List A} {args : List A} {res : T} (hF : Fun P f [] args fun o r => o = [] ∧ r = res) (bor : List Nat) (hfo : fnA (S.ev fo) = some (f, cap)) (hcall : ∀ args w, (callFunc f args).run P w = .ok (.enter f args) w)
    (hargs : vaL S [] bor args (ops.map S.ev ++ cap)) (hns : bor = [] ∨ res.noSh) (hk : afterCall S d [] [] res K) : CallW P n d fo ops K S := by
  refine CallW.use hfo hcall hF [] bor (by simp) trivial (fun q _ => by simp) hargs fun rout res' h => ?_
  obtain ⟨rfl, rfl⟩ := h
  refine ⟨?_, hk⟩
  rcases hns with h | h
  · exact .inl h
  · exact .inr ⟨h, trivial⟩
end

theorem toShL_ints (l : List Int) : T.toShL (l.map T.i) = l.map T.i := by
  rw [T.toShL_eq_map, List.map_map]; exact List.map_congr_left fun _ _ => rfl
theorem intsO_toSh (l : List Int) : (intsO l).toSh = ints l := by
  simp only [intsO, ints, T.toSh, toShL_ints]
theorem rowsO_toSh (m : List (List Int)) : (rowsO m).toSh = rows m := by
  simp only [rowsO, rows, T.toSh, T.toShL_eq_map, List.map_map]
  congr 1
  exact List.map_congr_left fun r _ => intsO_toSh r
theorem rowsO_noSh (m : List (List Int)) : (rowsO m).noSh := by
  simp only [rowsO, T.noSh]
  rw [T.noShL_iff]
  intro t ht
  obtain ⟨x, _, rfl⟩ := List.mem_map.1 ht
  exact intsO_noSh x
theorem vt_rows_own (S : St) (bor : List Nat) (m : List (List Int)) (q : Nat) : vt S bor (rows m) (.own q) = (q ∈ bor ∧ ∃ t, S.roots q = .live t [] ∧ rows m = t.toSh) := by simp [rows, vt, vb]
theorem vt_ints_own (S : St) (bor : List Nat) (m : List Int) (q : Nat) : vt S bor (ints m) (.own q) = (q ∈ bor ∧ ∃ t, S.roots q = .live t [] ∧ ints m = t.toSh) := by simp [ints, vt, vb]
theorem absT_rowsO (d k : Nat) (m : List (List Int)) : absT d k (rowsO m) = (.own (rid d k), [(rid d k, rowsO m)], k + 1) := rfl
theorem absT_intsO (d k : Nat) (m : List Int) : absT d k (intsO m) = (.own (rid d k), [(rid d k, intsO m)], k + 1) := rfl

end Go.Ab
