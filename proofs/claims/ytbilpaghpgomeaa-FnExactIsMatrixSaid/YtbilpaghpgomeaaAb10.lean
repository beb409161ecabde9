/- The abstract layer, part 10: append. -/
import Derived.Test.YtbilpaghpgomeaaAb9
set_option linter.unusedSimpArgs false
set_option linter.unusedVariables false
namespace Go.Ab

section
variable {P : Program} (w : World)
theorem run_room (t ty e e0 : TypeId) (i : TypeInfo) (ht : P.underlying t = some (.slice e)) (hi : P.info? e = some i)
    (g sLen sCap : Nat) (cur : Array Value) (hg : w.heap[g]? = some (.cells cur e0 (0, 0)))
    (a : Addr) (m c : Nat) (news : List Value) (hl : news.length = m * i.size) (hnews : ∀ j u, news[j]? = some u → w.cell? (a.add j) = some u) (h1 : ∀ u ∈ news, u.oneCell' = true)
    (hroom : sLen + m ≤ sCap) (hfit : sLen * i.size + news.length ≤ cur.size) :
    (Builtin.append_ #[t, t] ty #[.slice (some ⟨g, 0, none⟩) sLen sCap, .slice (some a) m c]).run P w =
      .ok (.slice (some ⟨g, 0, none⟩) (sLen + m) sCap) (w.setRow g (cur.toList.take (sLen * i.size) ++ news ++ cur.toList.drop (sLen * i.size + news.length)).toArray) := by
  have hf := run_firstCells_some (P := P) w i.size m a m c news hl hnews
  have hst := run_storeCells_at P g (sLen * i.size) e0 news 0 cur w hg (by simpa using hfit) h1
  simp only [Nat.add_zero] at hst
  simp [Builtin.append_, run_underlying ht, Go.sizeOf, typeInfo, hi, Builtin.lenOf, hroom, hf, Addr.add_lit, hst]

theorem run_none (t ty e : TypeId) (i : TypeInfo) (ht : P.underlying t = some (.slice e)) (hi : P.info? e = some i) (b : Option Addr) (sLen sCap : Nat) (h : sLen ≤ sCap) :
    (Builtin.append_ #[t, t] ty #[.slice b sLen sCap, .slice none 0 0]).run P w = .ok (.slice b sLen sCap) w := by
  cases b <;> simp [Builtin.append_, run_underlying ht, Go.sizeOf, typeInfo, hi, Builtin.lenOf, h, Builtin.firstCells, storeCells]

/-- What an append gives: a new row, the old row written on, or the old slice as it was. -/
theorem run_append_any (t ty e : TypeId) (i : TypeInfo) (z : Value) (ht : P.underlying t = some (.slice e)) (hi : P.info? e = some i) (hz : i.zero = some z) (hzs : z.cells.size = i.size)
    (v : Value) (k : Nat) (xs : List Value) (hxs : xs.length = k * i.size)
    (hv : (v = .slice none 0 0 ∧ k = 0) ∨ ∃ g cap cur e0, v = .slice (some ⟨g, 0, none⟩) k cap ∧ w.heap[g]? = some (.cells cur e0 (0, 0)) ∧ k ≤ cap ∧ cap ≤ maxLen ∧ cur.size = cap * i.size ∧ cur.toList.take (k * i.size) = xs)
    (u : Value) (m : Nat) (news : List Value) (hl : news.length = m * i.size) (h1 : ∀ u ∈ news, u.oneCell' = true)
    (hu : (u = .slice none 0 0 ∧ m = 0) ∨ ∃ ad c, u = .slice (some ad) m c ∧ ∀ j y, news[j]? = some y → w.cell? (ad.add j) = some y)
    (h63 : k + m ≤ maxLen) (hbytes : (k + m) * i.bytes ≤ 140737488355328) :
    ∃ v' w', (Builtin.append_ #[t, t] ty #[v, u]).run P w = .ok v' w' ∧ w'.os = w.os ∧ w'.tape = w.tape ∧ w'.output = w.output ∧
      ((∃ cap' cs', v' = .slice (some ⟨w.heap.size, 0, none⟩) (k + m) cap' ∧ w'.heap = w.heap.push (.cells cs' e) ∧ k + m ≤ cap' ∧ cap' ≤ maxLen ∧ cs'.size = cap' * i.size ∧ cs'.toList.take ((k + m) * i.size) = xs ++ news) ∨
       (∃ g cap cur e0 cs', v = .slice (some ⟨g, 0, none⟩) k cap ∧ w.heap[g]? = some (.cells cur e0 (0, 0)) ∧ v' = .slice (some ⟨g, 0, none⟩) (k + m) cap ∧ w'.heap.size = w.heap.size ∧ w'.heap[g]? = some (.cells cs' e0 (0, 0)) ∧
          (∀ b, b ≠ g → w'.heap[b]? = w.heap[b]?) ∧ k + m ≤ cap ∧ cs'.size = cap * i.size ∧ cs'.toList.take ((k + m) * i.size) = xs ++ news) ∨
       (v' = v ∧ w' = w ∧ m = 0)) := by
  have hsmall : k + m ≤ 9223372036854775807 := by simp only [maxLen] at h63; omega
  have hlen : (xs ++ news).length = (k + m) * i.size := by rw [List.length_append, hxs, hl, Nat.add_mul]
  have grown : ∀ (old : Nat), ∃ cap' cs', (Value.slice (some ⟨w.heap.size, 0, none⟩) (k + m) (grownCap w (k + m) old e) = .slice (some ⟨w.heap.size, 0, none⟩) (k + m) cap') ∧
      (w.drew.alloc (.cells (xs.toArray ++ news.toArray ++ Builtin.zeroCells z.cells (grownCap w (k + m) old e - (k + m))) e)).heap = w.heap.push (.cells cs' e) ∧ k + m ≤ cap' ∧ cap' ≤ maxLen ∧ cs'.size = cap' * i.size ∧ cs'.toList.take ((k + m) * i.size) = xs ++ news := by
    intro old
    have hge := grownCap_ge w (k + m) old e
    have hcm : grownCap w (k + m) old e ≤ maxLen := grownCap_le_maxLen w (k + m) old e h63
    refine ⟨_, _, rfl, rfl, hge, hcm, ?_, ?_⟩
    · simp only [Array.size_append, List.size_toArray, size_zeroCells, hzs, hxs, hl, ← Nat.add_mul]
      congr 1
      omega
    · simp only [Array.toList_append, List.append_assoc]
      rw [← List.append_assoc, ← hlen]
      exact List.take_left
  rcases hu with ⟨rfl, rfl⟩ | ⟨ad, c, rfl, hnews⟩
  · rcases hv with ⟨rfl, rfl⟩ | ⟨g, cap, cur, e0, rfl, hg, hkc, hcm, hcs, htake⟩
    · exact ⟨_, w, run_none w t ty e i ht hi none 0 0 (Nat.le_refl _), rfl, rfl, rfl, .inr (.inr ⟨rfl, rfl, rfl⟩)⟩
    · exact ⟨_, w, run_none w t ty e i ht hi _ k cap hkc, rfl, rfl, rfl, .inr (.inr ⟨rfl, rfl, rfl⟩)⟩
  rcases hv with ⟨rfl, rfl⟩ | ⟨g, cap, cur, e0, rfl, hg, hkc, hcm, hcs, htake⟩
  · have hx : xs = [] := List.eq_nil_of_length_eq_zero (by simpa using hxs)
    subst hx
    by_cases hm : m = 0
    · subst hm
      refine ⟨.slice none 0 0, w, ?_, rfl, rfl, rfl, .inr (.inr ⟨rfl, rfl, rfl⟩)⟩
      simp [Builtin.append_, run_underlying ht, Go.sizeOf, typeInfo, hi, Builtin.lenOf, Builtin.firstCells, loadCells, loadCellsFrom]
    · have hr := run_append_nil (P := P) w t ty e i z ht hi hz ad m c news hl hnews (by omega) (by omega) (by have hb := hbytes; simp only [Nat.zero_add] at hb; omega)
      obtain ⟨cap', cs', h1', h2', h3', h4', h5', h6'⟩ := grown 0
      refine ⟨_, _, hr, rfl, rfl, rfl, .inl ⟨cap', cs', ?_, ?_, h3', h4', h5', h6'⟩⟩
      · simpa using h1'
      · simpa using h2'
  · by_cases hroom : k + m ≤ cap
    · have hfit : k * i.size + news.length ≤ cur.size := by rw [hl, hcs, ← Nat.add_mul]; exact Nat.mul_le_mul_right _ hroom
      have hr := run_room (P := P) w t ty e e0 i ht hi g k cap cur hg ad m c news hl hnews h1 hroom hfit
      refine ⟨_, _, hr, rfl, rfl, rfl, .inr (.inl ⟨g, cap, cur, e0, _, rfl, hg, rfl, by simp, setRow_heap w g cur _ e0 _ hg, fun b hb => setRow_other w g b _ hb, hroom, ?_, ?_⟩)⟩
      · simp only [List.size_toArray, List.length_append, List.length_take, List.length_drop, Array.length_toList]
        omega
      · rw [htake, ← hlen]
        exact List.take_left
    · have holds : ∀ j y, xs[j]? = some y → w.cell? ((⟨g, 0, none⟩ : Addr).add j) = some y := by
        intro j y hy
        rw [addr_add, Nat.zero_add, cell_of_row w g j cur e0 (0, 0) hg]
        rw [← htake, List.getElem?_take] at hy
        split at hy
        · simpa using hy
        · cases hy
      have hr := run_append_grow (P := P) w t ty e i z ht hi hz ⟨g, 0, none⟩ k cap xs hxs holds ad m c news hl hnews (by omega) (by omega) (growslice_fits (by omega) hbytes)
      obtain ⟨cap', cs', h1', h2', h3', h4', h5', h6'⟩ := grown cap
      exact ⟨_, _, hr, rfl, rfl, rfl, .inl ⟨cap', cs', h1', h2', h3', h4', h5', h6'⟩⟩
end
end Go.Ab
