/- The bridge, part 1: what an argument reads as, by its type. -/
import Derived.Test.YtbilpaghpgomeaaAb15
import Derived.Deep.Slices
import Derived.Deep.OwnRows
import Derived.DataReads
import Derived.WideKeyArgs
import Derived.WideShapes
import Derived.ChangeShapes
import Derived.ProofKit
import Derived.OpenShut
set_option linter.unusedSimpArgs false
set_option linter.unusedVariables false
namespace Go.Ab

inductive Ty where
  | int (k : IntKind)
  | bool
  | str
  | sl (s : Nat) (e : Ty)
  | st (f : Ty)
  | nil
  | cons (a r : Ty)

/-- The cells l are of the type. -/
def Ty.wt : Ty → List T → Prop
  | .int k, l => ∃ n, l = [.v (.int k n)] ∧ (Lit.int k n).wf = true
  | .bool, l => ∃ b, l = [.v (.bool b)]
  | .str, l => ∃ s, l = [.v (.string s)] ∧ s.size ≤ maxLen
  | .sl s e, l => ∃ xs : List (List T), l = [.sh s xs.flatten] ∧ xs.length ≤ maxLen ∧ ∀ x ∈ xs, x.length = s ∧ e.wt x
  | .st f, l => f.wt l
  | .nil, l => l = []
  | .cons a r, l => ∃ l1 l2, l = l1 ++ l2 ∧ a.wt l1 ∧ r.wt l2

/-- The tree t is a value of the type. -/
def Ty.wtV : Ty → T → Prop
  | .st f, t => ∃ l, t = .agg l ∧ f.wt l
  | ty, t => ty.wt [t]

mutual
def Ty.fits (P : Program) : Ty → TypeId → Bool
  | .int k, t => (match P.underlying t with | some (.int k') => decide (k' = k) | _ => false)
  | .bool, t => (match P.underlying t with | some .bool => true | _ => false)
  | .str, t => (match P.underlying t with | some .string => true | _ => false)
  | .sl s e, t => (match P.underlying t with | some (.slice et) => decide (P.cellsOf et = s) && decide (0 < s) && e.fits P et | _ => false)
  | .st f, t => (match P.underlying t with | some (.struct fs) => f.fitsF P (P.cellsOf t) 0 fs.toList | _ => false)
  | .nil, _ => false
  | .cons _ _, _ => false
def Ty.fitsF (P : Program) : Ty → Nat → Nat → List Field → Bool
  | .nil, n, o, [] => decide (o = n)
  | .cons a r, n, o, f :: fs => decide (f.offset = o) && a.fits P f.type && r.fitsF P n (o + P.cellsOf f.type) fs
  | _, _, _, _ => false
end

section
variable {H : Type} {enc : TypeId × Value → H} {P : Program} {w : World} {base : Nat} {spare : Nat → Bool} {held : Bool}

theorem cell_block {a : Addr} {v : Value} (h : w.cell? a = some v) : a.spot = none ∧ ∃ cs e fz, w.heap[a.block]? = some (.cells cs e fz) ∧ cs[a.off]? = some v := by
  unfold World.cell? at h
  split at h
  · rename_i c e fz hc
    split at h
    · cases h
    · rename_i hs
      exact ⟨by simpa using hs, c, e, fz, hc, h⟩
  · cases h

theorem add_block (a : Addr) (i : Nat) : (a.add i).block = a.block := by
  unfold Addr.add; split <;> rfl
theorem add_off (a : Addr) (i : Nat) : (a.add i).off = a.off + i := by
  unfold Addr.add; split
  · rename_i h; subst h; rfl
  · rfl

theorem getD_some {vs : List Value} {i : Nat} {v : Value} (h : vs[i]? = some v) : vs.getD i undef = v := by
  rw [List.getD_eq_getElem?_getD, h]; rfl

theorem Ty.read (O : Nat → Prop) (hO : ∀ b, ¬ O b) : ∀ (ty : Ty),
    (∀ (t : TypeId) (fuel : Nat) (cs : List Value) (x : DataW H × List MemPlace), ty.fits P t = true → DataW.trod enc P w base (fun _ => true) held fuel t cs = some x →
      ∃ l, ty.wt l ∧ l.length = cs.length ∧ ∀ i (h : i < l.length), Rd w O l[i] (cs.getD i undef)) ∧
    (∀ (n o : Nat) (fs : List Field) (fuel : Nat) (cs : List Value), ty.fitsF P n o fs = true → cs.length = n →
      (∀ f ∈ fs, ∃ x, DataW.trod enc P w base (fun _ => true) held fuel f.type ((cs.drop f.offset).take (P.cellsOf f.type)) = some x) →
      ∃ l, ty.wt l ∧ l.length = n - o ∧ (∀ i (h : i < l.length), Rd w O l[i] ((cs.drop o).getD i undef))) := by
  have one : ∀ (v : Value), ∀ i (h : i < [T.v v].length), Rd w O [T.v v][i] ([v].getD i undef) := fun v i h => by
    have : i = 0 := by simpa using h
    subst this; exact .v v
  intro ty
  induction ty with
  | int k =>
    refine ⟨fun t fuel cs x hf h => ?_, fun n o fs fuel cs hf => by simp [Ty.fitsF] at hf⟩
    simp only [Ty.fits] at hf
    split at hf
    · rename_i k' ht
      have : k' = k := by simpa using hf
      subst this
      obtain ⟨n, rfl, _, hw⟩ := DataW.trod_int ht h
      exact ⟨_, ⟨n, rfl, hw⟩, rfl, one _⟩
    · cases hf
  | bool =>
    refine ⟨fun t fuel cs x hf h => ?_, fun n o fs fuel cs hf => by simp [Ty.fitsF] at hf⟩
    simp only [Ty.fits] at hf
    split at hf
    · rename_i ht
      obtain ⟨n, rfl, _⟩ := DataW.trod_bool ht h
      exact ⟨_, ⟨n, rfl⟩, rfl, one _⟩
    · cases hf
  | str =>
    refine ⟨fun t fuel cs x hf h => ?_, fun n o fs fuel cs hf => by simp [Ty.fitsF] at hf⟩
    simp only [Ty.fits] at hf
    split at hf
    · rename_i ht
      obtain ⟨n, rfl, _, hw⟩ := DataW.trod_string ht h
      exact ⟨_, ⟨n, rfl, hw⟩, rfl, one _⟩
    · cases hf
  | sl s e ih =>
    refine ⟨fun t fuel cs x hf h => ?_, fun n o fs fuel cs hf => by simp [Ty.fitsF] at hf⟩
    simp only [Ty.fits] at hf
    split at hf
    · rename_i et ht
      simp only [Bool.and_eq_true, decide_eq_true_eq] at hf
      obtain ⟨⟨hs, hs0⟩, hfe⟩ := hf
      have single : ∀ (t : T) (v : Value), Rd w O t v → ∀ i (h : i < [t].length), Rd w O [t][i] ([v].getD i undef) := fun t v hr i h => by
        have : i = 0 := by simpa using h
        subst this; exact hr
      rcases Deep.open_slice ht h with ⟨rfl, _⟩ | ⟨a, len, cap, m, n, D, Pl, rfl, hb, hl, hm, hmm, _, hx⟩
      · exact ⟨_, ⟨[], rfl, Nat.zero_le _, by simp⟩, rfl, single _ _ (.shNil s)⟩
      · simp only [if_true] at hmm
        subst hmm
        have each : ∀ i, i < len → ∃ y : List T × List Value, w.cells? base (a.add (i * s)) s = some y.2 ∧ e.wt y.1 ∧ y.1.length = s ∧ ∀ j (h : j < y.1.length), Rd w O y.1[j] (y.2.getD j undef) := by
          intro i hi
          obtain ⟨cs', h1, h2⟩ := hx i (by omega)
          rw [hs] at h1
          obtain ⟨l, hwt, hlen, hr⟩ := ih.1 _ _ _ _ hfe h2
          exact ⟨(l, cs'), h1, hwt, hlen.trans (World.cells?_some h1).2.1, hr⟩
        obtain ⟨y, hy⟩ := Deep.choose_lt each
        rcases Nat.eq_zero_or_pos len with h0 | h0
        · subst h0
          exact ⟨_, ⟨[], rfl, Nat.zero_le _, by simp⟩, rfl, single _ _ (.shZ s a _)⟩
        · -- the block
          have cell : ∀ i j, i < len → j < s → w.cell? ((a.add (i * s)).add j) = some ((y i).2.getD j undef) := fun i j hi hj => by
            obtain ⟨h1, hwt, hlen, hr⟩ := hy i hi
            obtain ⟨_, h2, h3⟩ := World.cells?_some h1
            rw [h3 j hj, List.getD_eq_getElem?_getD, List.getElem?_eq_getElem (by omega)]; rfl
          have hfirst := cell 0 0 h0 hs0
          rw [Nat.zero_mul] at hfirst
          obtain ⟨hsp, cs, ee, fz, hblk, _⟩ := cell_block hfirst
          rw [add_block, add_block] at hblk
          have at' : ∀ i j, i < len → j < s → cs[a.off + i * s + j]? = some ((y i).2.getD j undef) := fun i j hi hj => by
            obtain ⟨_, cs2, e2, fz2, h1, h2⟩ := cell_block (cell i j hi hj)
            rw [add_block, add_block, hblk] at h1
            simp only [Option.some.injEq, Obj.cells.injEq] at h1
            rw [add_off, add_off, ← h1.1] at h2
            exact h2
          have hsp' : a.spot = none := by
            unfold Addr.add at hsp
            simpa using hsp
          obtain ⟨b, off, sp⟩ := a
          simp only at hsp' hblk at'
          subst hsp'
          have hfl : ∀ i, i ≤ len → (((List.range i).map fun i => (y i).1).flatten).length = i * s := fun i => by
            induction i with
            | zero => intro _; simp
            | succ i ihi =>
              intro hi
              rw [List.range_succ, List.map_append, List.flatten_append, List.length_append, ihi (by omega)]
              simp only [List.map_cons, List.map_nil, List.flatten_cons, List.flatten_nil, List.append_nil, (hy i (by omega)).2.2.1, Nat.succ_mul]
          refine ⟨[.sh s ((List.range len).map fun i => (y i).1).flatten], ⟨_, rfl, by simp; exact Nat.le_trans hl hm, fun x hx => ?_⟩, rfl, single _ _ ?_⟩
          · obtain ⟨i, hi, rfl⟩ := List.mem_map.1 hx
            have := hy i (by simpa using hi)
            exact ⟨this.2.2.1, this.2.1⟩
          · have hlast := at' (len - 1) (s - 1) (by omega) (by omega)
            obtain ⟨hlt, _⟩ := Array.getElem?_eq_some_iff.1 hlast
            have hmul : (len - 1) * s + s = len * s := by rw [← Nat.succ_mul]; congr 1; omega
            refine .sh s _ b off len _ cs ee fz (hO b) hblk (by rw [hfl len (Nat.le_refl _)]; omega) (hfl len (Nat.le_refl _)) hl fun k hk => ?_
            rw [hfl len (Nat.le_refl _)] at hk
            have hi : k / s < len := Nat.div_lt_of_lt_mul (by rw [Nat.mul_comm]; exact hk)
            have hj : k % s < s := Nat.mod_lt _ hs0
            have hk' : k / s * s + k % s = k := by rw [Nat.mul_comm]; exact Nat.div_add_mod k s
            have e1 : (((List.range len).map fun i => (y i).1).flatten)[k]? = (y (k / s)).1[k % s]? := by
              have hsplit : ∃ rest, List.range len = List.range (k / s) ++ (k / s) :: rest := by
                refine ⟨((List.range (len - k / s - 1)).map Nat.succ).map (k / s + ·), ?_⟩
                have h1 : List.range (k / s + (len - k / s)) = List.range (k / s) ++ (List.range (len - k / s)).map (k / s + ·) := List.range_add
                rw [show k / s + (len - k / s) = len by omega] at h1
                have h2 : List.range (len - k / s) = 0 :: (List.range (len - k / s - 1)).map Nat.succ := by
                  rw [← List.range_succ_eq_map]; congr 1; omega
                rw [h1, h2]; rfl
              obtain ⟨rest, hsplit⟩ := hsplit
              rw [hsplit, List.map_append, List.flatten_append, List.getElem?_append_right (by rw [hfl _ (Nat.le_of_lt hi)]; omega), hfl _ (Nat.le_of_lt hi), List.map_cons, List.flatten_cons,
                List.getElem?_append_left (by rw [(hy _ hi).2.2.1]; omega)]
              congr 1; omega
            have hjl : k % s < (y (k / s)).1.length := by rw [(hy _ hi).2.2.1]; exact hj
            have hget : (((List.range len).map fun i => (y i).1).flatten)[k]'(by rw [hfl len (Nat.le_refl _)]; exact hk) = (y (k / s)).1[k % s] := by
              have h1 := List.getElem?_eq_getElem (l := ((List.range len).map fun i => (y i).1).flatten) (i := k) (by rw [hfl len (Nat.le_refl _)]; exact hk)
              rw [e1, List.getElem?_eq_getElem hjl] at h1
              exact (Option.some.inj h1).symm
            rw [hget]
            have hc := at' (k / s) (k % s) hi hj
            rw [Nat.add_assoc, hk'] at hc
            have : cs.getD (off + k) undef = (y (k / s)).2.getD (k % s) undef := by rw [Array.getD_eq_getD_getElem?, hc]; rfl
            rw [this]
            exact (hy _ hi).2.2.2 _ hjl
    · cases hf
  | st f ih =>
    refine ⟨fun t fuel cs x hf h => ?_, fun n o fs fuel cs hf => by simp [Ty.fitsF] at hf⟩
    simp only [Ty.fits] at hf
    split at hf
    · rename_i fs ht
      obtain ⟨xs, n, rfl, _, hlen, hxl, hx⟩ := DataW.trod_struct ht h
      obtain ⟨l, hwt, hl, hr⟩ := ih.2 _ _ _ n cs hf hlen (fun f hf' => by
        obtain ⟨i, hi, rfl⟩ := List.mem_iff_getElem.1 hf'
        have h1 := hx i fs.toList[i] (by simp only [Array.length_toList] at hi; simp [hi])
        have hi' : i < xs.length := by rw [hxl]; simpa using hi
        rw [List.getElem?_eq_getElem hi'] at h1
        exact ⟨_, h1⟩)
      exact ⟨l, hwt, by omega, by simpa using hr⟩
    · cases hf
  | nil =>
    refine ⟨fun t fuel cs x hf h => by simp [Ty.fits] at hf, fun n o fs fuel cs hf hn _ => ?_⟩
    cases fs with
    | cons f fs => simp [Ty.fitsF] at hf
    | nil =>
      have : o = n := by simpa [Ty.fitsF] using hf
      exact ⟨[], rfl, by simp; omega, fun i h => absurd h (by simp)⟩
  | cons a r iha ihr =>
    refine ⟨fun t fuel cs x hf h => by simp [Ty.fits] at hf, fun n o fs fuel cs hf hn hx => ?_⟩
    cases fs with
    | nil => simp [Ty.fitsF] at hf
    | cons f fs =>
      simp only [Ty.fitsF, Bool.and_eq_true, decide_eq_true_eq] at hf
      obtain ⟨⟨rfl, hfa⟩, hfr⟩ := hf
      obtain ⟨x, h1⟩ := hx f (by simp)
      obtain ⟨l1, hw1, hl1, hr1⟩ := iha.1 _ _ _ _ hfa h1
      obtain ⟨l2, hw2, hl2, hr2⟩ := ihr.2 _ _ _ fuel cs hfr hn (fun g hg => hx g (by simp [hg]))
      simp only [List.length_take, List.length_drop] at hl1
      refine ⟨l1 ++ l2, ⟨l1, l2, rfl, hw1, hw2⟩, by rw [List.length_append]; omega, fun i h => ?_⟩
      by_cases hi : i < l1.length
      · rw [List.getElem_append_left hi]
        have := hr1 i hi
        rwa [List.getD_eq_getElem?_getD, List.getElem?_take_of_lt (by omega), ← List.getD_eq_getElem?_getD] at this
      · rw [List.getElem_append_right (by omega)]
        have := hr2 (i - l1.length) (by rw [List.length_append] at h; omega)
        rw [List.getD_eq_getElem?_getD, List.getElem?_drop] at this ⊢
        rw [List.length_append] at h
        rwa [show f.offset + P.cellsOf f.type + (i - l1.length) = f.offset + i by omega] at this
end
end Go.Ab
